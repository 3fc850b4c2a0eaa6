/- Part 3 of what the card rests on. -/
import Derived.Test.YtikencoikigllaaGreatDoorCr2
set_option maxHeartbeats 8000000
set_option maxRecDepth 100000
set_option linter.unusedVariables false
set_option linter.unusedSimpArgs false
namespace Go.Proofs.YtikencoikigllaaGreatDoor.PRy
open Go.RowKit Go.Proofs.YtikencoikigllaaGreatDoorW.PrintWords Go.Proofs.YtikencoikigllaaGreatDoorW.PrintLast Go.Proofs.YtikencoikigllaaGreatDoorW.PrintMore
open Go.Proofs.YtikencoikigllaaGreatDoor.Mine
attribute [local go_sem] max2_int min2_int max_two min_two max_three min_three max_four min_four
def tribunalref02_subD.l0:Nat→List Int→List Int→List Int→Int→Int→Option (List Int)
 | 0,_,_,_,_,_=>none
 | k+1,x0,x1,x5,x6,x7=>if x7<(x0.length:Int) then(if 0≤x7 then(if x7<(x1.length:Int) then(if(wrap32 ((wrap32 ((wrap32 (rd x0 x7))-x6))-(wrap32 (rd x1 x7))))<0 then(if x5.length<70368744177664 then(tribunalref02_subD.l0 k x0 x1 (x5++[IntKind.u16.wrap (wrap32 ((wrap32 ((wrap32 ((wrap32 (rd x0 x7))-x6))-(wrap32 (rd x1 x7))))+65536))]) 1 (wrap64 (x7+1))) else(none)) else(if x5.length<70368744177664 then(tribunalref02_subD.l0 k x0 x1 (x5++[IntKind.u16.wrap (wrap32 ((wrap32 ((wrap32 (rd x0 x7))-x6))-(wrap32 (rd x1 x7))))]) 0 (wrap64 (x7+1))) else(none))) else(if(wrap32 ((wrap32 (rd x0 x7))-x6))<0 then(if x5.length<70368744177664 then(tribunalref02_subD.l0 k x0 x1 (x5++[IntKind.u16.wrap (wrap32 ((wrap32 ((wrap32 (rd x0 x7))-x6))+65536))]) 1 (wrap64 (x7+1))) else(none)) else(if x5.length<70368744177664 then(tribunalref02_subD.l0 k x0 x1 (x5++[IntKind.u16.wrap (wrap32 ((wrap32 (rd x0 x7))-x6))]) 0 (wrap64 (x7+1))) else(none)))) else(none)) else((tribunalref02_trim.f k x5).bind fun t483=>(some t483))
def tribunalref02_subD.f (k:Nat) (l0:List Int) (l1:List Int):Option (List Int):=tribunalref02_subD.l0 k l0 l1 ([]:List Int) 0 0
theorem tribunalref02_subD.calls (k:Nat) (A0:Option Addr) (c0:Nat) (l0:List Int) (A1:Option Addr) (c1:Nat) (l1:List Int) (r:List Int) (w:World) (hr0:Kd.C (Kd.int .u16) w A0 l0.length l0) (hc0:l0.length≤c0) (hr1:Kd.C (Kd.int .u16) w A1 l1.length l1) (hc1:l1.length≤c1) (h:tribunalref02_subD.f k l0 l1=some r) :
  Calls Tryz.prog 191 #[.slice A0 l0.length c0,.slice A1 l1.length c1] w fun e w'=>∃v0_:Value,e=.returned (v0_)∧Kd.V (Kd.int .u16) 115 w' w.heap.size (fun k_=>(w.heap.size≤k_)) v0_ r∧Below w.heap.size w w':=by
 have HR0:=Aside0.mk hr0
 have HC0:=Aside0.mk hc0
 clear hr0 hc0
 have HR1:=Aside0.mk hr1
 have HC1:=Aside0.mk hc1
 clear hr1 hc1
 have HB:=Aside0.mk (Below.refl w.heap.size w)
 have H:(tribunalref02_subD.l0 k l0 l1 ([]:List Int) 0 0)=some r:=h
 clear h
 have H':=Aside0.mk H
 clear H
 go_enter Tryz.func191,Tryz.ntmps191
 go_wp2
 go_loopg [5,6,7] k (fun kq v5 v6 v7 w'=>∃(x5_1:List Int) (x6_1:Int) (x7_1:Int),v6=.int .i32 x6_1∧v7=.int .i64 x7_1∧Aside0 (tribunalref02_subD.l0 kq l0 l1 x5_1 x6_1 x7_1=some r)∧Aside0 (kq≤k)∧Aside0 (Kd.R (Kd.int .u16) 115 w' w.heap.size (fun k_=>(w.heap.size≤k_)) v5 x5_1)∧Aside0 (Below w.heap.size w w'))
 case atStart=>exact⟨(([]:List Int)),(0),(0),(by first|rfl|(simp;done)|(simp[*];done)),(by first|rfl|(simp;done)|(simp[*];done)),H',⟨Nat.le_refl _⟩,⟨by first|exact Kd.R_nil _ _ _ _ _|exact Kd.N_nil _ _ _ _ _|exact Kd.V_nil _ _ _ _ _|exact Kd.Q_nil _ _ _ _ _|exact Kd.S_nil _ _ _ _ _⟩,⟨khu HB.out⟩⟩
 case round=>
  clear H'
  try clear c1
  try clear p2
  obtain⟨x5_1,x6_1,x7_1,rfl,rfl,HA,HK1,HO_5,HB⟩:=hrel
  cases gk with
  | zero=>exact absurd HA.out (by simp[tribunalref02_subD.l0])
  | succ k1=>
   have H:=HA.out
   clear HA
   simp only[tribunalref02_subD.l0]at H
   by_cases c3:x7_1<(l0.length:Int)
   ·rw [if_pos c3]at H
    have c3b0:decide (x7_1<(l0.length:Int))=true:=decide_eq_true c3
    clear c3
    by_cases c4:0≤x7_1
    ·rw [if_pos c4]at H
     have c4b0:decide (0≤x7_1)=true:=decide_eq_true c4
     clear c4
     by_cases c5:x7_1<(l1.length:Int)
     ·rw[if_pos c5]at H
      have c5b0:decide (x7_1<(l1.length:Int))=true:=decide_eq_true c5
      clear c5
      by_cases c6:(wrap32 ((wrap32 ((wrap32 (rd l0 x7_1))-x6_1))-(wrap32 (rd l1 x7_1))))<0
      ·rw[if_pos c6]at H
       have c6b0:decide ((wrap32 ((wrap32 ((wrap32 (rd l0 x7_1))-x6_1))-(wrap32 (rd l1 x7_1))))<0)=true:=decide_eq_true c6
       clear c6
       by_cases c7:x5_1.length<70368744177664
       ·rw[if_pos c7]at H
        have LMc7:=Aside0.mk c7
        clear c7
        obtain⟨y488,hy488⟩:∃y_:List Int,y_=(x5_1++[IntKind.u16.wrap (wrap32 ((wrap32 ((wrap32 ((wrap32 (rd l0 x7_1))-x6_1))-(wrap32 (rd l1 x7_1))))+65536))]):=⟨_,rfl⟩
        replace H:(tribunalref02_subD.l0 k1 l0 l1 y488 1 (wrap64 (x7_1+1)))=some r:=by first|(rw[hy488];with_reducible exact H)|(have H2_:=(Option.bind_some _ _).symm.trans H;rw[hy488];with_reducible exact H2_)|(have H2_:=(Option.bind_some _ _).symm.trans H;with_reducible exact H2_)|with_reducible exact H|(rw[hy488];exact H)|exact H
        have Ny488:=Aside0.mk hy488
        clear hy488
        have H':=Aside0.mk H
        clear H
        have p486:0≤(x7_1:Int):=of_decide_eq_true ‹_›
        have q486:x7_1<(l0.length:Int):=of_decide_eq_true ‹_›
        obtain⟨ad486,e486,hx486_0⟩:=Kd.at_int HR0.out x7_1 p486 q486
        cases e486
        replace hx486_0:=(HB.out.cell (World.block_lt_of_cell? w _ hx486_0)).trans hx486_0
        replace p486:=eq_true p486
        replace q486:=eq_true q486
        have p487:0≤(x7_1:Int):=of_decide_eq_true ‹_›
        have q487:x7_1<(l1.length:Int):=of_decide_eq_true ‹_›
        obtain⟨ad487,e487,hx487_0⟩:=Kd.at_int HR1.out x7_1 p487 q487
        cases e487
        replace hx487_0:=(HB.out.cell (World.block_lt_of_cell? w _ hx487_0)).trans hx487_0
        replace p487:=eq_true p487
        replace q487:=eq_true q487
        go_wp2_with (first|((with_reducible refine gate_builtin (b:=.append) (xs:=#[.tmp 37,.tmp 40]) rfl ?_);at_builtin;refine Kd.R_append (Kd.int .u16) (w0:=w) w.heap.size rfl (.tmp 37) (.tmp 40) 83 115 (.int .u16 0) 2 rfl Tryz.underlying83 info115 rfl (by decide) (by omega) u5 x5_1 (IntKind.u16.wrap (wrap32 ((wrap32 ((wrap32 ((wrap32 (rd l0 x7_1))-x6_1))-(wrap32 (rd l1 x7_1))))+65536))) [.int .u16 (IntKind.u16.wrap (wrap32 ((wrap32 ((wrap32 ((wrap32 (rd l0 x7_1))-x6_1))-(wrap32 (rd l1 x7_1))))+65536)))] (fun k_=>(w.heap.size≤k_)) (fun _=>False) rfl rfl ?aP (fun _ hk=>hk.elim) ?aF ?aO ?aB ?aS ?aL ?_;(case aP=>exact rfl);(case aB=>exact(khu HB.out));(case aF=>exact(fun k_ hk=>(Nat.le_trans (below_size (khu HB.out)) hk)));(case aO=>exact(kru HO_5.out));(case aS=>exact(below_size (khu HB.out)));(case aL=>have:=LMc7.out;omega);intro v489 w8 ho hb hg hat;rw[←Ny488.out]at ho;replace HB:=Aside0.mk (hb);have HO490:=Aside0.mk (ho);clear HO_5;clear ho hb hg hat))
        go_roundg k1
        case measure=>have:=HK1.out;omega
        case rel=>exact⟨(y488),(1),(wrap64 (x7_1+1)),(by first|rfl|(simp;done)|(simp[*];done)),(by first|rfl|(simp;done)|(simp[*];done)),H',⟨by have:=HK1.out;omega⟩,⟨kru HO490.out⟩,⟨khu HB.out⟩⟩
       rw[if_neg c7]at H
       exact absurd H (by simp)
      rw[if_neg c6]at H
      have c6b0:decide ((wrap32 ((wrap32 ((wrap32 (rd l0 x7_1))-x6_1))-(wrap32 (rd l1 x7_1))))<0)=false:=decide_eq_false c6
      clear c6
      by_cases c9:x5_1.length<70368744177664
      ·rw[if_pos c9]at H
       have LMc9:=Aside0.mk c9
       clear c9
       obtain⟨y491,hy491⟩:∃y_:List Int,y_=(x5_1++[IntKind.u16.wrap (wrap32 ((wrap32 ((wrap32 (rd l0 x7_1))-x6_1))-(wrap32 (rd l1 x7_1))))]):=⟨_,rfl⟩
       replace H:(tribunalref02_subD.l0 k1 l0 l1 y491 0 (wrap64 (x7_1+1)))=some r:=by first|(rw[hy491];with_reducible exact H)|(have H2_:=(Option.bind_some _ _).symm.trans H;rw[hy491];with_reducible exact H2_)|(have H2_:=(Option.bind_some _ _).symm.trans H;with_reducible exact H2_)|with_reducible exact H|(rw[hy491];exact H)|exact H
       have Ny491:=Aside0.mk hy491
       clear hy491
       have H':=Aside0.mk H
       clear H
       have p486:0≤(x7_1:Int):=of_decide_eq_true ‹_›
       have q486:x7_1<(l0.length:Int):=of_decide_eq_true ‹_›
       obtain⟨ad486,e486,hx486_0⟩:=Kd.at_int HR0.out x7_1 p486 q486
       cases e486
       replace hx486_0:=(HB.out.cell (World.block_lt_of_cell? w _ hx486_0)).trans hx486_0
       replace p486:=eq_true p486
       replace q486:=eq_true q486
       have p487:0≤(x7_1:Int):=of_decide_eq_true ‹_›
       have q487:x7_1<(l1.length:Int):=of_decide_eq_true ‹_›
       obtain⟨ad487,e487,hx487_0⟩:=Kd.at_int HR1.out x7_1 p487 q487
       cases e487
       replace hx487_0:=(HB.out.cell (World.block_lt_of_cell? w _ hx487_0)).trans hx487_0
       replace p487:=eq_true p487
       replace q487:=eq_true q487
       go_wp2_with (first|((with_reducible refine gate_builtin (b:=.append) (xs:=#[.tmp 37,.tmp 40]) rfl ?_);at_builtin;refine Kd.R_append (Kd.int .u16) (w0:=w) w.heap.size rfl (.tmp 37) (.tmp 40) 83 115 (.int .u16 0) 2 rfl Tryz.underlying83 info115 rfl (by decide) (by omega) u5 x5_1 (IntKind.u16.wrap (wrap32 ((wrap32 ((wrap32 (rd l0 x7_1))-x6_1))-(wrap32 (rd l1 x7_1))))) [.int .u16 (IntKind.u16.wrap (wrap32 ((wrap32 ((wrap32 (rd l0 x7_1))-x6_1))-(wrap32 (rd l1 x7_1)))))] (fun k_=>(w.heap.size≤k_)) (fun _=>False) rfl rfl ?aP (fun _ hk=>hk.elim) ?aF ?aO ?aB ?aS ?aL ?_;(case aP=>exact rfl);(case aB=>exact(khu HB.out));(case aF=>exact(fun k_ hk=>(Nat.le_trans (below_size (khu HB.out)) hk)));(case aO=>exact(kru HO_5.out));(case aS=>exact(below_size (khu HB.out)));(case aL=>have:=LMc9.out;omega);intro v492 w10 ho hb hg hat;rw[←Ny491.out]at ho;replace HB:=Aside0.mk (hb);have HO493:=Aside0.mk (ho);clear HO_5;clear ho hb hg hat))
       go_roundg k1
       case measure=>have:=HK1.out;omega
       case rel=>exact⟨(y491),(0),(wrap64 (x7_1+1)),(by first|rfl|(simp;done)|(simp[*];done)),(by first|rfl|(simp;done)|(simp[*];done)),H',⟨by have:=HK1.out;omega⟩,⟨kru HO493.out⟩,⟨khu HB.out⟩⟩
      rw[if_neg c9]at H
      exact absurd H (by simp)
     rw[if_neg c5]at H
     have c5b0:decide (x7_1<(l1.length:Int))=false:=decide_eq_false c5
     clear c5
     by_cases c11:(wrap32 ((wrap32 (rd l0 x7_1))-x6_1))<0
     ·rw[if_pos c11]at H
      have c11b0:decide ((wrap32 ((wrap32 (rd l0 x7_1))-x6_1))<0)=true:=decide_eq_true c11
      clear c11
      by_cases c12:x5_1.length<70368744177664
      ·rw[if_pos c12]at H
       have LMc12:=Aside0.mk c12
       clear c12
       obtain⟨y494,hy494⟩:∃y_:List Int,y_=(x5_1++[IntKind.u16.wrap (wrap32 ((wrap32 ((wrap32 (rd l0 x7_1))-x6_1))+65536))]):=⟨_,rfl⟩
       replace H:(tribunalref02_subD.l0 k1 l0 l1 y494 1 (wrap64 (x7_1+1)))=some r:=by first|(rw[hy494];with_reducible exact H)|(have H2_:=(Option.bind_some _ _).symm.trans H;rw[hy494];with_reducible exact H2_)|(have H2_:=(Option.bind_some _ _).symm.trans H;with_reducible exact H2_)|with_reducible exact H|(rw[hy494];exact H)|exact H
       have Ny494:=Aside0.mk hy494
       clear hy494
       have H':=Aside0.mk H
       clear H
       have p486:0≤(x7_1:Int):=of_decide_eq_true ‹_›
       have q486:x7_1<(l0.length:Int):=of_decide_eq_true ‹_›
       obtain⟨ad486,e486,hx486_0⟩:=Kd.at_int HR0.out x7_1 p486 q486
       cases e486
       replace hx486_0:=(HB.out.cell (World.block_lt_of_cell? w _ hx486_0)).trans hx486_0
       replace p486:=eq_true p486
       replace q486:=eq_true q486
       go_wp2_with (first|((with_reducible refine gate_builtin (b:=.append) (xs:=#[.tmp 37,.tmp 40]) rfl ?_);at_builtin;refine Kd.R_append (Kd.int .u16) (w0:=w) w.heap.size rfl (.tmp 37) (.tmp 40) 83 115 (.int .u16 0) 2 rfl Tryz.underlying83 info115 rfl (by decide) (by omega) u5 x5_1 (IntKind.u16.wrap (wrap32 ((wrap32 ((wrap32 (rd l0 x7_1))-x6_1))+65536))) [.int .u16 (IntKind.u16.wrap (wrap32 ((wrap32 ((wrap32 (rd l0 x7_1))-x6_1))+65536)))] (fun k_=>(w.heap.size≤k_)) (fun _=>False) rfl rfl ?aP (fun _ hk=>hk.elim) ?aF ?aO ?aB ?aS ?aL ?_;(case aP=>exact rfl);(case aB=>exact(khu HB.out));(case aF=>exact(fun k_ hk=>(Nat.le_trans (below_size (khu HB.out)) hk)));(case aO=>exact(kru HO_5.out));(case aS=>exact(below_size (khu HB.out)));(case aL=>have:=LMc12.out;omega);intro v495 w13 ho hb hg hat;rw[←Ny494.out]at ho;replace HB:=Aside0.mk (hb);have HO496:=Aside0.mk (ho);clear HO_5;clear ho hb hg hat))
       go_roundg k1
       case measure=>have:=HK1.out;omega
       case rel=>exact⟨(y494),(1),(wrap64 (x7_1+1)),(by first|rfl|(simp;done)|(simp[*];done)),(by first|rfl|(simp;done)|(simp[*];done)),H',⟨by have:=HK1.out;omega⟩,⟨kru HO496.out⟩,⟨khu HB.out⟩⟩
      rw[if_neg c12]at H
      exact absurd H (by simp)
     rw[if_neg c11]at H
     have c11b0:decide ((wrap32 ((wrap32 (rd l0 x7_1))-x6_1))<0)=false:=decide_eq_false c11
     clear c11
     by_cases c14:x5_1.length<70368744177664
     ·rw[if_pos c14]at H
      have LMc14:=Aside0.mk c14
      clear c14
      obtain⟨y497,hy497⟩:∃y_:List Int,y_=(x5_1++[IntKind.u16.wrap (wrap32 ((wrap32 (rd l0 x7_1))-x6_1))]):=⟨_,rfl⟩
      replace H:(tribunalref02_subD.l0 k1 l0 l1 y497 0 (wrap64 (x7_1+1)))=some r:=by first|(rw[hy497];with_reducible exact H)|(have H2_:=(Option.bind_some _ _).symm.trans H;rw[hy497];with_reducible exact H2_)|(have H2_:=(Option.bind_some _ _).symm.trans H;with_reducible exact H2_)|with_reducible exact H|(rw[hy497];exact H)|exact H
      have Ny497:=Aside0.mk hy497
      clear hy497
      have H':=Aside0.mk H
      clear H
      have p486:0≤(x7_1:Int):=of_decide_eq_true ‹_›
      have q486:x7_1<(l0.length:Int):=of_decide_eq_true ‹_›
      obtain⟨ad486,e486,hx486_0⟩:=Kd.at_int HR0.out x7_1 p486 q486
      cases e486
      replace hx486_0:=(HB.out.cell (World.block_lt_of_cell? w _ hx486_0)).trans hx486_0
      replace p486:=eq_true p486
      replace q486:=eq_true q486
      go_wp2_with (first|((with_reducible refine gate_builtin (b:=.append) (xs:=#[.tmp 37,.tmp 40]) rfl ?_);at_builtin;refine Kd.R_append (Kd.int .u16) (w0:=w) w.heap.size rfl (.tmp 37) (.tmp 40) 83 115 (.int .u16 0) 2 rfl Tryz.underlying83 info115 rfl (by decide) (by omega) u5 x5_1 (IntKind.u16.wrap (wrap32 ((wrap32 (rd l0 x7_1))-x6_1))) [.int .u16 (IntKind.u16.wrap (wrap32 ((wrap32 (rd l0 x7_1))-x6_1)))] (fun k_=>(w.heap.size≤k_)) (fun _=>False) rfl rfl ?aP (fun _ hk=>hk.elim) ?aF ?aO ?aB ?aS ?aL ?_;(case aP=>exact rfl);(case aB=>exact(khu HB.out));(case aF=>exact(fun k_ hk=>(Nat.le_trans (below_size (khu HB.out)) hk)));(case aO=>exact(kru HO_5.out));(case aS=>exact(below_size (khu HB.out)));(case aL=>have:=LMc14.out;omega);intro v498 w15 ho hb hg hat;rw[←Ny497.out]at ho;replace HB:=Aside0.mk (hb);have HO499:=Aside0.mk (ho);clear HO_5;clear ho hb hg hat))
      go_roundg k1
      case measure=>have:=HK1.out;omega
      case rel=>exact⟨(y497),(0),(wrap64 (x7_1+1)),(by first|rfl|(simp;done)|(simp[*];done)),(by first|rfl|(simp;done)|(simp[*];done)),H',⟨by have:=HK1.out;omega⟩,⟨kru HO499.out⟩,⟨khu HB.out⟩⟩
     rw[if_neg c14]at H
     exact absurd H (by simp)
    rw[if_neg c4]at H
    exact absurd H (by simp)
   rw[if_neg c3]at H
   have c3b0:decide (x7_1<(l0.length:Int))=false:=decide_eq_false c3
   clear c3
   replace H:=Option.bind_eq_some_iff.mp H
   obtain⟨t483,A160,H⟩:=H
   replace H:(some t483)=some r:=H
   have A16:=Aside0.mk A160
   clear A160
   obtain rfl:=Option.some.inj H
   obtain⟨Ao17,co17,eo17⟩:=Kd.R_slice HO_5.out
   subst eo17
   go_wp2_with (first|((with_reducible refine gate_callee (f:=118) rfl ?_);refine kgl (some 43) rfl rfl Tryz.func118 #[.slice Ao17 x5_1.length co17] rfl ?_;(with_reducible refine(tribunalref02_trim.calls k1 (fun k_=>some k_=(.slice Ao17 x5_1.length co17:Value).ownBlock) _ _ x5_1 t483 _ ?side1 A16.out).mono ?_);(case side1=>exact Kd.R_V (Kd.R_tight rfl (HO_5.out)));rintro e w18 ⟨v484,rfl,ho0,hb⟩;refine⟨_,rfl,?_⟩;have HO485:=Aside0.mk (Kd.V_lower (Kd.V_mono (ok':=fun k_=>(w.heap.size≤k_)) ho0 (fun k_ hk_=>Or.elim hk_ (fun hs_=>((HO_5.out).1 k_ hs_.symm)) (fun hn_=>(Nat.le_trans (below_size (khu HB.out)) hn_)))) (below_size (khu HB.out)));replace HO_5:=krb HO_5 hb;replace HB:=kbs HB hb;(try clear hb);(try clear hb2);(try clear hk);(try clear hi);(try clear ho0)))
   go_ret
   exact⟨_,by first|rfl|(simp[*,errW_none,errW_some]<;>rfl),kvu HO485.out,khu HB.out⟩
def tribunalref02_digit.l0:Nat→List Int→List Int→Int→Int→Option (Int×List Int)
 | 0,_,_,_,_=>none
 | k+1,x0,x1,x6,x7=>if x6<x7 then((tribunalref02_timesD.f k x1 ((((x6+x7)+1)%4294967296)/2)).bind fun t506=>((tribunalref02_cmpD.f k t506 x0).bind fun t509=>(if t509≤0 then(tribunalref02_digit.l0 k x0 x1 ((((x6+x7)+1)%4294967296)/2) x7) else(tribunalref02_digit.l0 k x0 x1 x6 ((((((x6+x7)+1)%4294967296)/2)-1)%4294967296))))) else((tribunalref02_timesD.f k x1 x6).bind fun t500=>((tribunalref02_subD.f k x0 t500).bind fun t503=>(some (IntKind.u16.wrap (x6),t503))))
def tribunalref02_digit.f (k:Nat) (l0:List Int) (l1:List Int):Option (Int×List Int):=tribunalref02_digit.l0 k l0 l1 0 65535
theorem tribunalref02_digit.calls (k:Nat) (A0:Option Addr) (c0:Nat) (l0:List Int) (A1:Option Addr) (c1:Nat) (l1:List Int) (r1:Int) (r2:List Int) (w:World) (hr0:Kd.C (Kd.int .u16) w A0 l0.length l0) (hc0:l0.length≤c0) (hr1:Kd.C (Kd.int .u16) w A1 l1.length l1) (hc1:l1.length≤c1) (h:tribunalref02_digit.f k l0 l1=some (r1,r2)) :
  Calls Tryz.prog 242 #[.slice A0 l0.length c0,.slice A1 l1.length c1] w fun e w'=>∃v1_:Value,e=.returned (.tuple #[.int .u16 r1,v1_])∧Kd.V (Kd.int .u16) 115 w' w.heap.size (fun k_=>(w.heap.size≤k_)) v1_ r2∧Below w.heap.size w w':=by
 have HR0:=Aside0.mk hr0
 have HC0:=Aside0.mk hc0
 clear hr0 hc0
 have HR1:=Aside0.mk hr1
 have HC1:=Aside0.mk hc1
 clear hr1 hc1
 have HB:=Aside0.mk (Below.refl w.heap.size w)
 have H:(tribunalref02_digit.l0 k l0 l1 0 65535)=some (r1,r2):=h
 clear h
 have H':=Aside0.mk H
 clear H
 go_enter Tryz.func242,Tryz.ntmps242
 go_wp2
 go_loopg [6,7] k (fun kq v6 v7 w'=>∃(x6_1:Int) (x7_1:Int),v6=.int .u32 x6_1∧v7=.int .u32 x7_1∧Aside0 (tribunalref02_digit.l0 kq l0 l1 x6_1 x7_1=some (r1,r2))∧Aside0 (kq≤k)∧Aside0 (Below w.heap.size w w'))
 case atStart=>exact⟨(0),(65535),(by first|rfl|(simp;done)|(simp[*];done)),(by first|rfl|(simp;done)|(simp[*];done)),H',⟨Nat.le_refl _⟩,⟨khu HB.out⟩⟩
 case round=>
  clear H'
  try clear c1
  try clear c2
  try clear p2
  obtain⟨x6_1,x7_1,rfl,rfl,HA,HK1,HB⟩:=hrel
  cases gk with
  | zero=>exact absurd HA.out (by simp[tribunalref02_digit.l0])
  | succ k1=>
   have H:=HA.out
   clear HA
   simp only[tribunalref02_digit.l0]at H
   by_cases c3:x6_1<x7_1
   ·rw[if_pos c3]at H
    have c3b0:decide (x6_1<x7_1)=true:=decide_eq_true c3
    clear c3
    replace H:=Option.bind_eq_some_iff.mp H
    obtain⟨t506,A40,H⟩:=H
    replace H:((tribunalref02_cmpD.f k1 t506 l0).bind fun t509=>(if t509≤0 then(tribunalref02_digit.l0 k1 l0 l1 ((((x6_1+x7_1)+1)%4294967296)/2) x7_1) else(tribunalref02_digit.l0 k1 l0 l1 x6_1 ((((((x6_1+x7_1)+1)%4294967296)/2)-1)%4294967296))))=some (r1,r2):=H
    have A4:=Aside0.mk A40
    clear A40
    replace H:=Option.bind_eq_some_iff.mp H
    obtain⟨t509,A50,H⟩:=H
    replace H:(if t509≤0 then(tribunalref02_digit.l0 k1 l0 l1 ((((x6_1+x7_1)+1)%4294967296)/2) x7_1) else(tribunalref02_digit.l0 k1 l0 l1 x6_1 ((((((x6_1+x7_1)+1)%4294967296)/2)-1)%4294967296)))=some (r1,r2):=H
    have A5:=Aside0.mk A50
    clear A50
    by_cases c6:t509≤0
    ·rw[if_pos c6]at H
     have c6b0:decide (t509≤0)=true:=decide_eq_true c6
     clear c6
     have H':=Aside0.mk H
     clear H
     go_wp2_with (first|((with_reducible refine gate_callee (f:=116) rfl ?_);refine kgl (some 19) rfl rfl Tryz.func116 #[.slice A1 l1.length c1,.int .u32 ((((x6_1+x7_1)+1)%4294967296)/2)] rfl ?_;(with_reducible refine(tribunalref02_timesD.calls k1 _ _ l1 ((((x6_1+x7_1)+1)%4294967296)/2) t506 _ ?side1 ?side2 A4.out).mono ?_);(case side1=>repeat (first|exact(Kd.C_below HR1.out HB.out)|(with_reducible refine Kd.C_alloc ?_ _)|(with_reducible refine Kd.C_drewN ?_ _)|(with_reducible refine Kd.C_drew ?_)));(case side2=>exact HC1.out);rintro e w7 ⟨v507,rfl,ho0,hb⟩;refine⟨_,rfl,?_⟩;have HO508:=Aside0.mk (Kd.V_lower (Kd.V_mono (ok':=fun k_=>(w.heap.size≤k_)) ho0 (fun k_ hk_=>(Nat.le_trans (below_size (khu HB.out)) hk_))) (below_size (khu HB.out)));replace HB:=kbs HB hb;(try clear hb);(try clear hb2);(try clear hk);(try clear hi);(try clear ho0);obtain⟨Ao8,co8,eo8⟩:=Kd.V_slice HO508.out;subst eo8)|((with_reducible refine gate_callee (f:=190) rfl ?_);refine kgl (some 21) rfl rfl Tryz.func190 #[.slice Ao8 t506.length co8,.slice A0 l0.length c0] rfl ?_;(with_reducible refine(tribunalref02_cmpD.calls k1 _ _ t506 _ _ l0 t509 _ ?side1 ?side2 ?side3 ?side4 A5.out).mono ?_);(case side1=>repeat (first|exact(Kd.V_reads' HO508.out).2.2|(with_reducible refine Kd.C_alloc ?_ _)|(with_reducible refine Kd.C_drewN ?_ _)|(with_reducible refine Kd.C_drew ?_)));(case side2=>exact(Kd.V_reads' HO508.out).2.1);(case side3=>repeat (first|exact(Kd.C_below HR0.out HB.out)|(with_reducible refine Kd.C_alloc ?_ _)|(with_reducible refine Kd.C_drewN ?_ _)|(with_reducible refine Kd.C_drew ?_)));(case side4=>exact HC0.out);rintro e w' ⟨rfl,⟨nd,rfl⟩⟩;refine⟨_,rfl,?_⟩))
     go_roundg k1
     case measure=>have:=HK1.out;omega
     case rel=>exact⟨((((x6_1+x7_1)+1)%4294967296)/2),(x7_1),(by first|rfl|(simp;done)|(simp[*];done)),(by first|rfl|(simp;done)|(simp[*];done)),H',⟨by have:=HK1.out;omega⟩,⟨khu HB.out⟩⟩
    rw[if_neg c6]at H
    have c6b0:decide (t509≤0)=false:=decide_eq_false c6
    clear c6
    have H':=Aside0.mk H
    clear H
    go_wp2_with (first|((with_reducible refine gate_callee (f:=116) rfl ?_);refine kgl (some 19) rfl rfl Tryz.func116 #[.slice A1 l1.length c1,.int .u32 ((((x6_1+x7_1)+1)%4294967296)/2)] rfl ?_;(with_reducible refine(tribunalref02_timesD.calls k1 _ _ l1 ((((x6_1+x7_1)+1)%4294967296)/2) t506 _ ?side1 ?side2 A4.out).mono ?_);(case side1=>repeat (first|exact(Kd.C_below HR1.out HB.out)|(with_reducible refine Kd.C_alloc ?_ _)|(with_reducible refine Kd.C_drewN ?_ _)|(with_reducible refine Kd.C_drew ?_)));(case side2=>exact HC1.out);rintro e w9 ⟨v507,rfl,ho0,hb⟩;refine⟨_,rfl,?_⟩;have HO508:=Aside0.mk (Kd.V_lower (Kd.V_mono (ok':=fun k_=>(w.heap.size≤k_)) ho0 (fun k_ hk_=>(Nat.le_trans (below_size (khu HB.out)) hk_))) (below_size (khu HB.out)));replace HB:=kbs HB hb;(try clear hb);(try clear hb2);(try clear hk);(try clear hi);(try clear ho0);obtain⟨Ao10,co10,eo10⟩:=Kd.V_slice HO508.out;subst eo10)|((with_reducible refine gate_callee (f:=190) rfl ?_);refine kgl (some 21) rfl rfl Tryz.func190 #[.slice Ao10 t506.length co10,.slice A0 l0.length c0] rfl ?_;(with_reducible refine(tribunalref02_cmpD.calls k1 _ _ t506 _ _ l0 t509 _ ?side1 ?side2 ?side3 ?side4 A5.out).mono ?_);(case side1=>repeat (first|exact(Kd.V_reads' HO508.out).2.2|(with_reducible refine Kd.C_alloc ?_ _)|(with_reducible refine Kd.C_drewN ?_ _)|(with_reducible refine Kd.C_drew ?_)));(case side2=>exact(Kd.V_reads' HO508.out).2.1);(case side3=>repeat (first|exact(Kd.C_below HR0.out HB.out)|(with_reducible refine Kd.C_alloc ?_ _)|(with_reducible refine Kd.C_drewN ?_ _)|(with_reducible refine Kd.C_drew ?_)));(case side4=>exact HC0.out);rintro e w' ⟨rfl,⟨nd,rfl⟩⟩;refine⟨_,rfl,?_⟩))
    go_roundg k1
    case measure=>have:=HK1.out;omega
    case rel=>exact⟨(x6_1),((((((x6_1+x7_1)+1)%4294967296)/2)-1)%4294967296),(by first|rfl|(simp;done)|(simp[*];done)),(by first|rfl|(simp;done)|(simp[*];done)),H',⟨by have:=HK1.out;omega⟩,⟨khu HB.out⟩⟩
   rw[if_neg c3]at H
   have c3b0:decide (x6_1<x7_1)=false:=decide_eq_false c3
   clear c3
   replace H:=Option.bind_eq_some_iff.mp H
   obtain⟨t500,A110,H⟩:=H
   replace H:((tribunalref02_subD.f k1 l0 t500).bind fun t503=>(some (IntKind.u16.wrap (x6_1),t503)))=some (r1,r2):=H
   have A11:=Aside0.mk A110
   clear A110
   replace H:=Option.bind_eq_some_iff.mp H
   obtain⟨t503,A120,H⟩:=H
   replace H:(some (IntKind.u16.wrap (x6_1),t503))=some (r1,r2):=H
   have A12:=Aside0.mk A120
   clear A120
   simp only[Option.some.injEq,Prod.mk.injEq]at H
   obtain⟨rfl,rfl⟩:=H
   go_wp2_with (first|((with_reducible refine gate_callee (f:=116) rfl ?_);refine kgl (some 31) rfl rfl Tryz.func116 #[.slice A1 l1.length c1,.int .u32 x6_1] rfl ?_;(with_reducible refine(tribunalref02_timesD.calls k1 _ _ l1 x6_1 t500 _ ?side1 ?side2 A11.out).mono ?_);(case side1=>repeat (first|exact(Kd.C_below HR1.out HB.out)|(with_reducible refine Kd.C_alloc ?_ _)|(with_reducible refine Kd.C_drewN ?_ _)|(with_reducible refine Kd.C_drew ?_)));(case side2=>exact HC1.out);rintro e w13 ⟨v501,rfl,ho0,hb⟩;refine⟨_,rfl,?_⟩;have HO502:=Aside0.mk (Kd.V_lower (Kd.V_mono (ok':=fun k_=>(w.heap.size≤k_)) ho0 (fun k_ hk_=>(Nat.le_trans (below_size (khu HB.out)) hk_))) (below_size (khu HB.out)));replace HB:=kbs HB hb;(try clear hb);(try clear hb2);(try clear hk);(try clear hi);(try clear ho0);obtain⟨Ao14,co14,eo14⟩:=Kd.V_slice HO502.out;subst eo14)|((with_reducible refine gate_callee (f:=191) rfl ?_);refine kgl (some 32) rfl rfl Tryz.func191 #[.slice A0 l0.length c0,.slice Ao14 t500.length co14] rfl ?_;(with_reducible refine(tribunalref02_subD.calls k1 _ _ l0 _ _ t500 t503 _ ?side1 ?side2 ?side3 ?side4 A12.out).mono ?_);(case side1=>repeat (first|exact(Kd.C_below HR0.out HB.out)|(with_reducible refine Kd.C_alloc ?_ _)|(with_reducible refine Kd.C_drewN ?_ _)|(with_reducible refine Kd.C_drew ?_)));(case side2=>exact HC0.out);(case side3=>repeat (first|exact(Kd.V_reads' HO502.out).2.2|(with_reducible refine Kd.C_alloc ?_ _)|(with_reducible refine Kd.C_drewN ?_ _)|(with_reducible refine Kd.C_drew ?_)));(case side4=>exact(Kd.V_reads' HO502.out).2.1);rintro e w15 ⟨v504,rfl,ho0,hb⟩;refine⟨_,rfl,?_⟩;replace HO502:=kvb HO502 hb;have HO505:=Aside0.mk (Kd.V_lower (Kd.V_mono (ok':=fun k_=>(w.heap.size≤k_)) ho0 (fun k_ hk_=>(Nat.le_trans (below_size (khu HB.out)) hk_))) (below_size (khu HB.out)));replace HB:=kbs HB hb;(try clear hb);(try clear hb2);(try clear hk);(try clear hi);(try clear ho0)))
   go_ret2
   exact⟨_,by first|rfl|(simp[*,errW_none,errW_some]<;>rfl),kvu HO505.out,khu HB.out⟩
def tribunalref02_divD.l0:Nat→List Int→List Int→List Int→List Int→Int→Option (List Int×List Int)
 | 0,_,_,_,_,_=>none
 | k+1,x0,x1,x6,x7,x8=>if x8≥0 then(if 0≤x8 then(if x8<(x0.length:Int) then((some (([rd x0 x8]:List Int):List Int)).bind fun y514=>(if y514.length+x7.length<70368744177664 then((tribunalref02_trim.f k (y514++x7)).bind fun t520=>((tribunalref02_digit.f k t520 x1).bind fun bt523=>(if x8<(x6.length:Int) then(tribunalref02_divD.l0 k x0 x1 (x6.set (x8:Int).toNat bt523.1) bt523.2 (wrap64 (x8-1))) else(none)))) else(none))) else(none)) else(none)) else((tribunalref02_trim.f k x6).bind fun t528=>(some (t528,x7)))
def tribunalref02_divD.f (k:Nat) (l0:List Int) (l1:List Int):Option (List Int×List Int):=if 0≤(l0.length:Int) then(if((l0.length:Int):Int).toNat≤140737488355328 then(tribunalref02_divD.l0 k l0 l1 (List.replicate ((l0.length:Int):Int).toNat 0) ([]:List Int) (wrap64 ((l0.length:Int)-1))) else(none)) else(none)
theorem tribunalref02_divD.calls (k:Nat) (A0:Option Addr) (c0:Nat) (l0:List Int) (A1:Option Addr) (c1:Nat) (l1:List Int) (r1:List Int) (r2:List Int) (w:World) (hr0:Kd.C (Kd.int .u16) w A0 l0.length l0) (hc0:l0.length≤c0) (hr1:Kd.C (Kd.int .u16) w A1 l1.length l1) (hc1:l1.length≤c1) (h:tribunalref02_divD.f k l0 l1=some (r1,r2)) :
  Calls Tryz.prog 189 #[.slice A0 l0.length c0,.slice A1 l1.length c1] w fun e w'=>∃v0_ v1_:Value,e=.returned (.tuple #[v0_,v1_])∧Kd.V (Kd.int .u16) 115 w' w.heap.size (fun k_=>(w.heap.size≤k_)) v0_ r1∧Kd.V (Kd.int .u16) 115 w' w.heap.size (fun k_=>(w.heap.size≤k_)) v1_ r2∧Below w.heap.size w w':=by
 have HR0:=Aside0.mk hr0
 have HC0:=Aside0.mk hc0
 clear hr0 hc0
 have HR1:=Aside0.mk hr1
 have HC1:=Aside0.mk hc1
 clear hr1 hc1
 have HB:=Aside0.mk (Below.refl w.heap.size w)
 have H:(if 0≤(l0.length:Int) then(if((l0.length:Int):Int).toNat≤140737488355328 then(tribunalref02_divD.l0 k l0 l1 (List.replicate ((l0.length:Int):Int).toNat 0) ([]:List Int) (wrap64 ((l0.length:Int)-1))) else(none)) else(none))=some (r1,r2):=h
 clear h
 by_cases c3:0≤(l0.length:Int)
 ·rw [if_pos c3]at H
  have c3b0:=eq_true c3
  have c3b1:decide (0≤(l0.length:Int))=true:=decide_eq_true c3
  clear c3
  by_cases c4:((l0.length:Int):Int).toNat≤140737488355328
  ·rw [if_pos c4]at H
   have c4b0:=eq_true c4
   have c4b1:decide (((l0.length:Int):Int).toNat≤140737488355328)=true:=decide_eq_true c4
   clear c4
   obtain⟨y510,hy510⟩:∃y_:List Int,y_=(List.replicate ((l0.length:Int):Int).toNat 0):=⟨_,rfl⟩
   replace H:(tribunalref02_divD.l0 k l0 l1 y510 ([]:List Int) (wrap64 ((l0.length:Int)-1)))=some (r1,r2):=by first|(rw[hy510];with_reducible exact H)|(have H2_:=(Option.bind_some _ _).symm.trans H;rw[hy510];with_reducible exact H2_)|(have H2_:=(Option.bind_some _ _).symm.trans H;with_reducible exact H2_)|with_reducible exact H|(rw[hy510];exact H)|exact H
   have Ny510:=Aside0.mk hy510
   clear hy510
   have H':=Aside0.mk H
   clear H
   go_enter Tryz.func189,Tryz.ntmps189
   go_wp2_with (first|(refine gd 13 rfl ?_;refine Kd.R_make (Kd.int .u16) _ 115 rfl (N:=13) rfl 83 _ _ rfl (l0.length:Int) rfl rfl Tryz.underlying83 (.int .u16 0) 2 info115 rfl (by decide) (by omega) 0 (ok:=fun _=>True) (okp:=fun _=>True) rfl (fun _ hk=>hk) trivial (of_decide_eq_true ‹_›) (Nat.le_trans (Nat.mul_le_mul_right _ (of_decide_eq_true ‹_›:(l0.length:Int).toNat≤140737488355328)) (by omega)) (Below.refl _ _) (Nat.le_refl _) ?_;intro v511 w5 ho6 hb hg_ hnew_;clear hg_ hnew_;(first|rw[←Ny510.out]at ho6|(simp only[Int.reduceToNat]at ho6;rw[←Ny510.out]at ho6));have HO512:=Aside0.mk (Kd.R_lower (Kd.R_newM (M:=fun k_=>(w.heap.size≤k_)) ho6 (below_size (khu HB.out)) (fun k_ h_=>h_)) (below_size (khu HB.out)));replace HB:=kbs HB hb;clear hb ho6))
   go_loopg [7,8] k (fun kq v7 v8 w'=>∃(x6_1:List Int) (x7_1:List Int) (x8_1:Int),v8=.int .i64 x8_1∧Aside0 (tribunalref02_divD.l0 kq l0 l1 x6_1 x7_1 x8_1=some (r1,r2))∧Aside0 (kq≤k)∧Aside0 (Kd.R (Kd.int .u16) 115 w' w.heap.size (fun k_=>(w.heap.size≤k_)) v511 x6_1)∧Aside0 (Kd.V (Kd.int .u16) 115 w' w.heap.size (fun k_=>(w.heap.size≤k_)∧some k_≠(v511:Value).ownBlock) v7 x7_1)∧Aside0 (Below w.heap.size w w'))
   case atStart=>exact⟨(y510),(([]:List Int)),(wrap64 ((l0.length:Int)-1)),(by first|rfl|(simp;done)|(simp[*];done)),H',⟨Nat.le_refl _⟩,⟨by(with_reducible repeat (first|apply Kd.R_alloc|apply Kd.R_drewN|apply Kd.R_drew));exact Kd.R_mono HO512.out (fun _ hk=>hk.1)⟩,⟨Kd.V_nil _ _ _ _ _⟩,⟨khu HB.out⟩⟩
   case round=>
    clear H'
    try clear c1
    try clear p2
    try clear c3
    try clear c3b0
    try clear c3b1
    try clear c4
    try clear c4b0
    try clear c4b1
    try clear p6
    obtain⟨x6_1,x7_1,x8_1,rfl,HA,HK1,HO_6,HO_7,HB⟩:=hrel
    cases gk with
    | zero=>exact absurd HA.out (by simp[tribunalref02_divD.l0])
    | succ k1=>
     have H:=HA.out
     clear HA
     simp only[tribunalref02_divD.l0]at H
     by_cases c7:x8_1≥0
     ·rw [if_pos c7]at H
      have c7b0:decide (0≤x8_1)=true:=decide_eq_true c7
      clear c7
      by_cases c8:0≤x8_1
      ·rw [if_pos c8]at H
       have c8b0:decide (0≤x8_1)=true:=decide_eq_true c8
       clear c8
       by_cases c9:x8_1<(l0.length:Int)
       ·rw[if_pos c9]at H
        have c9b0:decide (x8_1<(l0.length:Int))=true:=decide_eq_true c9
        clear c9
        obtain⟨y514,hy514⟩:∃y_:List Int,y_=(([rd l0 x8_1]:List Int)):=⟨_,rfl⟩
        replace H:(if y514.length+x7_1.length<70368744177664 then((tribunalref02_trim.f k1 (y514++x7_1)).bind fun t520=>((tribunalref02_digit.f k1 t520 l1).bind fun bt523=>(if x8_1<(x6_1.length:Int) then(tribunalref02_divD.l0 k1 l0 l1 (x6_1.set (x8_1:Int).toNat bt523.1) bt523.2 (wrap64 (x8_1-1))) else(none)))) else(none))=some (r1,r2):=by first|(rw[hy514];with_reducible exact H)|(have H2_:=(Option.bind_some _ _).symm.trans H;rw[hy514];with_reducible exact H2_)|(have H2_:=(Option.bind_some _ _).symm.trans H;with_reducible exact H2_)|with_reducible exact H|(rw[hy514];exact H)|exact H
        have Ny514:=Aside0.mk hy514
        clear hy514
        by_cases c10:y514.length+x7_1.length<70368744177664
        ·rw[if_pos c10]at H
         have LMc10:=Aside0.mk c10
         clear c10
         obtain⟨y517,hy517⟩:∃y_:List Int,y_=(y514++x7_1):=⟨_,rfl⟩
         replace H:((tribunalref02_trim.f k1 y517).bind fun t520=>((tribunalref02_digit.f k1 t520 l1).bind fun bt523=>(if x8_1<(x6_1.length:Int) then(tribunalref02_divD.l0 k1 l0 l1 (x6_1.set (x8_1:Int).toNat bt523.1) bt523.2 (wrap64 (x8_1-1))) else(none))))=some (r1,r2):=by first|(rw[hy517];with_reducible exact H)|(have H2_:=(Option.bind_some _ _).symm.trans H;rw[hy517];with_reducible exact H2_)|(have H2_:=(Option.bind_some _ _).symm.trans H;with_reducible exact H2_)|with_reducible exact H|(rw[hy517];exact H)|exact H
         have Ny517:=Aside0.mk hy517
         clear hy517
         replace H:=Option.bind_eq_some_iff.mp H
         obtain⟨t520,A110,H⟩:=H
         replace H:((tribunalref02_digit.f k1 t520 l1).bind fun bt523=>(if x8_1<(x6_1.length:Int) then(tribunalref02_divD.l0 k1 l0 l1 (x6_1.set (x8_1:Int).toNat bt523.1) bt523.2 (wrap64 (x8_1-1))) else(none)))=some (r1,r2):=H
         have A11:=Aside0.mk A110
         clear A110
         replace H:=Option.bind_eq_some_iff.mp H
         obtain⟨⟨t523,t524⟩,A120,H⟩:=H
         replace H:(if x8_1<(x6_1.length:Int) then(tribunalref02_divD.l0 k1 l0 l1 (x6_1.set (x8_1:Int).toNat t523) t524 (wrap64 (x8_1-1))) else(none))=some (r1,r2):=H
         have A12:=Aside0.mk A120
         clear A120
         by_cases c13:x8_1<(x6_1.length:Int)
         ·rw[if_pos c13]at H
          have c13b0:decide (x8_1<(x6_1.length:Int))=true:=decide_eq_true c13
          clear c13
          obtain⟨y527,hy527⟩:∃y_:List Int,y_=(x6_1.set (x8_1:Int).toNat t523):=⟨_,rfl⟩
          replace H:(tribunalref02_divD.l0 k1 l0 l1 y527 t524 (wrap64 (x8_1-1)))=some (r1,r2):=by first|(rw[hy527];with_reducible exact H)|(have H2_:=(Option.bind_some _ _).symm.trans H;rw[hy527];with_reducible exact H2_)|(have H2_:=(Option.bind_some _ _).symm.trans H;with_reducible exact H2_)|with_reducible exact H|(rw[hy527];exact H)|exact H
          have Ny527:=Aside0.mk hy527
          clear hy527
          have H':=Aside0.mk H
          clear H
          have p513:0≤(x8_1:Int):=of_decide_eq_true ‹_›
          have q513:x8_1<(l0.length:Int):=of_decide_eq_true ‹_›
          obtain⟨ad513,e513,hx513_0⟩:=Kd.at_int HR0.out x8_1 p513 q513
          cases e513
          replace hx513_0:=(HB.out.cell (World.block_lt_of_cell? w _ hx513_0)).trans hx513_0
          replace p513:=eq_true p513
          replace q513:=eq_true q513
          go_wp2_with (first|(refine gd 25 rfl ?_;refine Kd.R_lit (Kd.int .u16) _ 115 ?hg (N:=25) ?hd (xs:=([rd l0 x8_1]:List Int)) (inner:=[.int .u16 (rd l0 x8_1)]) (ok:=fun _=>True) (okp:=fun _=>True) ?hr ?hp (fun _ hk=>hk) trivial (Below.refl _ _) (Nat.le_refl _) (by simp) ?_;(case hd=>rfl);(case hg=>rfl);(case hr=>first|(go_simp;done)|(go_simp;rfl));(case hp=>exact(Reps.one (show Kd.M (Kd.int .u16) _ _ _ (rd l0 x8_1) [.int .u16 (rd l0 x8_1)] from rfl) (Reps.none _ _)));intro v515 w15 ho16 hb hg_ hnew_;clear hg_ hnew_;(first|rw[←Ny514.out]at ho16|(simp only[Int.reduceToNat]at ho16;rw[←Ny514.out]at ho16));replace HO_7:=Aside0.mk (Kd.V_elder' (kvu HO_7.out) (Kd.R_base ho16) hb);have HO516:=Aside0.mk (Kd.R_lower (Kd.R_new' (Kd.R_newM (M:=fun k_=>(w.heap.size≤k_)) ho16 (below_size (khu HB.out)) (fun k_ h_=>h_)) (Kd.R_lt (kru HO_6.out))) (below_size (khu HB.out)));replace HO_6:=Aside0.mk (Kd.R_elder' (kru HO_6.out) (Kd.R_base ho16) hb);replace HB:=kbs HB hb;clear hb ho16;obtain⟨Ao18,co18,eo18⟩:=Kd.V_slice HO_7.out;subst eo18)|((with_reducible refine gate_builtin (b:=.append) (xs:=#[.tmp 25,.tmp 26]) rfl ?_);at_builtin;refine Kd.R_append_rows (Kd.int .u16) (w0:=w) w.heap.size rfl (.tmp 25) (.tmp 26) 83 115 (.int .u16 0) 2 rfl Tryz.underlying83 info115 rfl (by decide) (by omega) v515 y514 x7_1 _ _ _ (fun k_=>(w.heap.size≤k_)∧some k_≠(v511:Value).ownBlock) (fun _=>False) rfl rfl ?aO ?aR (fun _ _ h=>h) (fun _ h=>h.elim) ?aF ?aB ?aS ?aL ?_;(case aR=>repeat (first|exact(Kd.V_reads' HO_7.out).2.2|(with_reducible refine Kd.C_alloc ?_ _)|(with_reducible refine Kd.C_drewN ?_ _)|(with_reducible refine Kd.C_drew ?_)));(case aB=>exact(khu HB.out));(case aF=>exact(fun k_ hk=>⟨(Nat.le_trans (below_size (khu HB.out)) hk),Kd.fresh' (Kd.R_lt (kru HO_6.out)) k_ hk⟩));(case aO=>exact(by(with_reducible repeat (first|apply Kd.R_alloc|apply Kd.R_drewN|apply Kd.R_drew));exact Kd.R_mono HO516.out (fun _ hk=>⟨hk.1.1,hk.2⟩)));(case aS=>exact(below_size (khu HB.out)));(case aL=>have:=LMc10.out;omega);intro v518 w17 ho hb hg hat;rw[←Ny517.out]at ho;replace HO_6:=Aside0.mk (Kd.R_after (ok:=(fun k_=>(w.heap.size≤k_))) (kru HO_6.out) hg hat);replace HO_7:=Aside0.mk (Kd.V_afterv (ok:=(fun k_=>(w.heap.size≤k_)∧some k_≠(v511:Value).ownBlock)) (kvu HO_7.out) hg hat);replace HB:=Aside0.mk (hb);have HO519:=Aside0.mk (ho);clear HO516;clear ho hb hg hat;obtain⟨Ao19,co19,eo19⟩:=Kd.R_slice HO519.out;subst eo19)|((with_reducible refine gate_callee (f:=118) rfl ?_);refine kgl (some 28) rfl rfl Tryz.func118 #[.slice Ao19 y517.length co19] rfl ?_;(with_reducible refine(tribunalref02_trim.calls k1 (fun k_=>some k_=(.slice Ao19 y517.length co19:Value).ownBlock) _ _ y517 t520 _ ?side1 A11.out).mono ?_);(case side1=>exact Kd.R_V (Kd.R_tight rfl (HO519.out)));rintro e w20 ⟨v521,rfl,ho0,hb⟩;refine⟨_,rfl,?_⟩;replace HO_7:=kvb HO_7 hb;have HO522:=Aside0.mk (Kd.V_lower (Kd.V_mono (ok':=fun k_=>(w.heap.size≤k_)∧some k_≠(v511:Value).ownBlock) ho0 (fun k_ hk_=>⟨Or.elim hk_ (fun hs_=>((HO519.out).1 k_ hs_.symm).1) (fun hn_=>(Nat.le_trans (below_size (khu HB.out)) hn_)),Or.elim hk_ (fun hs_=>((HO519.out).1 k_ hs_.symm).2) (fun hn_=>(Kd.fresh' (Kd.R_lt (kru HO_6.out)) k_ hn_))⟩)) (below_size (khu HB.out)));replace HO_6:=krb HO_6 hb;replace HO519:=krb HO519 hb;replace HB:=kbs HB hb;(try clear hb);(try clear hb2);(try clear hk);(try clear hi);(try clear ho0);obtain⟨Ao21,co21,eo21⟩:=Kd.V_slice HO522.out;subst eo21)|((with_reducible refine gate_callee (f:=242) rfl ?_);refine kgl (some 32) rfl rfl Tryz.func242 #[.slice Ao21 t520.length co21,.slice A1 l1.length c1] rfl ?_;(with_reducible refine(tribunalref02_digit.calls k1 _ _ t520 _ _ l1 t523 t524 _ ?side1 ?side2 ?side3 ?side4 A12.out).mono ?_);(case side1=>repeat (first|exact(Kd.V_reads' HO522.out).2.2|(with_reducible refine Kd.C_alloc ?_ _)|(with_reducible refine Kd.C_drewN ?_ _)|(with_reducible refine Kd.C_drew ?_)));(case side2=>exact(Kd.V_reads' HO522.out).2.1);(case side3=>repeat (first|exact(Kd.C_below HR1.out HB.out)|(with_reducible refine Kd.C_alloc ?_ _)|(with_reducible refine Kd.C_drewN ?_ _)|(with_reducible refine Kd.C_drew ?_)));(case side4=>exact HC1.out);rintro e w22 ⟨v525,rfl,ho0,hb⟩;refine⟨_,rfl,?_⟩;replace HO_7:=kvb HO_7 hb;replace HO522:=kvb HO522 hb;have HO526:=Aside0.mk (Kd.V_lower (Kd.V_mono (ok':=fun k_=>(w.heap.size≤k_)∧some k_≠(v511:Value).ownBlock∧some k_≠(.slice Ao19 y517.length co19:Value).ownBlock) ho0 (fun k_ hk_=>⟨(Nat.le_trans (below_size (khu HB.out)) hk_),(Kd.fresh' (Kd.R_lt (kru HO_6.out)) k_ hk_),(Kd.fresh' (Kd.R_lt (kru HO519.out)) k_ hk_)⟩)) (below_size (khu HB.out)));replace HO_6:=krb HO_6 hb;replace HO519:=krb HO519 hb;replace HB:=kbs HB hb;(try clear hb);(try clear hb2);(try clear hk);(try clear hi);(try clear ho0);have p14:0≤(x8_1:Int):=of_decide_eq_true ‹_›;have q14:(x8_1:Int)<((x6_1.length:Int):Int):=of_decide_eq_true ‹_›;obtain⟨go14,co14,eo14,gb14,gl14,cl14,HG14⟩:=Kd.R_form HO_6.out (by omega);(first|cases eo14|(injection eo14 with ea_ en_ ec_;(first|subst ea_|(injection ea_ with ea_;subst ea_));subst ec_;clear en_));have GB14:=Aside0.mk gb14;have GG14:=Aside0.mk HG14;clear gb14 gl14 HG14;obtain⟨hx14_0,hf14_0⟩:=Kd.R_celln 0 HO_6.out (x8_1:Int) p14 q14;replace p14:=eq_true p14;replace q14:=eq_true q14;obtain⟨hy23_,hz23_⟩:=Kd.R_celln 0 HO_6.out (x8_1:Int) (of_decide_eq_true ‹_›) (of_decide_eq_true ‹_›);have HP23:=Kd.R_putg HO_6.out (x8_1:Int) t523)|((with_reducible refine gate_store (t:=115) (p:=38) rfl ?_);refine store_event (t:=115) (p:=38) (v:=?vo_w24) (w1:=(w22.setCell ⟨go14,(x8_1:Int).toNat,none⟩ (.int .u16 t523))) ?hg ?ho ?hn ?hr ?_;(case ho=>rfl);(case hg=>rfl);(case hn=>rfl);(case hr=>first|(go_simp;done)|(go_simp;rfl));intro w24 hw;have hg:w22.grownBy w24 (some go14):=(by rw[hw];exact HP23.2);have hp_:Kd.R (Kd.int .u16) 115 w24 w.heap.size (fun k_=>(w.heap.size≤k_)∧some k_≠(.slice Ao19 y517.length co19:Value).ownBlock) (.slice (some ⟨go14,0,none⟩) x6_1.length co14) y527:=(by rw[hw,Ny527.out];exact HP23.1);clear HP23;replace HO_6:=Aside0.mk (hp_);replace HO_7:=Aside0.mk (Kd.V_afterv (v:=(.slice (some ⟨go14,0,none⟩) x6_1.length co14)) (v1:=(.slice (some ⟨go14,0,none⟩) x6_1.length co14)) (ok:=(fun k_=>(w.heap.size≤k_)∧some k_≠(.slice Ao19 y517.length co19:Value).ownBlock)) (by(with_reducible repeat (first|apply Kd.V_alloc|apply Kd.V_drewN|apply Kd.V_drew));exact Kd.V_mono HO_7.out (fun _ hk=>⟨⟨hk.1.1,hk.2⟩,hk.1.2⟩)) hg (.inl rfl));replace HO519:=Aside0.mk (Kd.R_after (v:=(.slice (some ⟨go14,0,none⟩) x6_1.length co14)) (v1:=(.slice (some ⟨go14,0,none⟩) x6_1.length co14)) (ok:=(fun k_=>(w.heap.size≤k_))) (kru HO519.out) hg (.inl rfl));replace HO522:=Aside0.mk (Kd.V_afterv (v:=(.slice (some ⟨go14,0,none⟩) x6_1.length co14)) (v1:=(.slice (some ⟨go14,0,none⟩) x6_1.length co14)) (ok:=(fun k_=>(w.heap.size≤k_))) (kvu HO522.out) hg (.inl rfl));replace HO526:=Aside0.mk (Kd.V_afterv (v:=(.slice (some ⟨go14,0,none⟩) x6_1.length co14)) (v1:=(.slice (some ⟨go14,0,none⟩) x6_1.length co14)) (ok:=(fun k_=>(w.heap.size≤k_)∧some k_≠(.slice Ao19 y517.length co19:Value).ownBlock)) (by(with_reducible repeat (first|apply Kd.V_alloc|apply Kd.V_drewN|apply Kd.V_drew));exact Kd.V_mono HO526.out (fun _ hk=>⟨⟨hk.1,hk.2.2⟩,hk.2.1⟩)) hg (.inl rfl));replace HB:=Aside0.mk ((by rw[hw];exact below_set (HB.out) GB14.out:Below w.heap.size w w24));clear hg hw hp_))
          go_roundg k1
          case measure=>have:=HK1.out;omega
          case rel=>exact⟨(y527),(t524),(wrap64 (x8_1-1)),(by first|rfl|(simp;done)|(simp[*];done)),H',⟨by have:=HK1.out;omega⟩,⟨by(with_reducible repeat (first|apply Kd.R_alloc|apply Kd.R_drewN|apply Kd.R_drew));exact Kd.R_mono HO_6.out (fun _ hk=>hk.1)⟩,⟨by(with_reducible repeat (first|apply Kd.V_alloc|apply Kd.V_drewN|apply Kd.V_drew));exact Kd.V_mono HO526.out (fun _ hk=>⟨hk.1.1,hk.2⟩)⟩,⟨khu HB.out⟩⟩
         rw[if_neg c13]at H
         exact absurd H (by simp)
        rw[if_neg c10]at H
        exact absurd H (by simp)
       rw[if_neg c9]at H
       exact absurd H (by simp)
      rw[if_neg c8]at H
      exact absurd H (by simp)
     rw[if_neg c7]at H
     have c7b0:decide (0≤x8_1)=false:=decide_eq_false c7
     clear c7
     replace H:=Option.bind_eq_some_iff.mp H
     obtain⟨t528,A250,H⟩:=H
     replace H:(some (t528,x7_1))=some (r1,r2):=H
     have A25:=Aside0.mk A250
     clear A250
     simp only[Option.some.injEq,Prod.mk.injEq]at H
     obtain⟨rfl,rfl⟩:=H
     obtain⟨Ao26,co26,eo26⟩:=Kd.R_slice HO_6.out
     subst eo26
     go_wp2_with (first|((with_reducible refine gate_callee (f:=118) rfl ?_);refine kgl (some 41) rfl rfl Tryz.func118 #[.slice Ao26 x6_1.length co26] rfl ?_;(with_reducible refine(tribunalref02_trim.calls k1 (fun k_=>some k_=(.slice Ao26 x6_1.length co26:Value).ownBlock) _ _ x6_1 t528 _ ?side1 A25.out).mono ?_);(case side1=>exact Kd.R_V (Kd.R_tight rfl (HO_6.out)));rintro e w27 ⟨v529,rfl,ho0,hb⟩;refine⟨_,rfl,?_⟩;replace HO_7:=kvb HO_7 hb;have HO530:=Aside0.mk (Kd.V_lower (Kd.V_mono (ok':=fun k_=>(w.heap.size≤k_)) ho0 (fun k_ hk_=>Or.elim hk_ (fun hs_=>((HO_6.out).1 k_ hs_.symm)) (fun hn_=>(Nat.le_trans (below_size (khu HB.out)) hn_)))) (below_size (khu HB.out)));replace HO_6:=krb HO_6 hb;replace HB:=kbs HB hb;(try clear hb);(try clear hb2);(try clear hk);(try clear hi);(try clear ho0)))
     go_ret2
     exact⟨_,_,by first|rfl|(simp[*,errW_none,errW_some]<;>rfl),kvu HO530.out,by(with_reducible repeat (first|apply Kd.V_alloc|apply Kd.V_drewN|apply Kd.V_drew));exact Kd.V_mono HO_7.out (fun _ hk=>hk.1),khu HB.out⟩
  rw[if_neg c4]at H
  exact absurd H (by simp)
 rw[if_neg c3]at H
 exact absurd H (by simp)
def tribunalref02_Cut.f (k:Nat) (a0_0:Bool) (l0_1:List Int) (a1_0:Bool) (l1_1:List Int):Option (Bool×List Int×Bool×List Int):=(tribunalref02_divD.f k l0_1 l1_1).bind fun bt535=>((tribunalref02_Make.f k (a0_0 != a1_0) bt535.1).bind fun bt541=>((tribunalref02_Make.f k a0_0 bt535.2).bind fun bt545=>(some (bt541.1,bt541.2,bt545.1,bt545.2))))
def tribunalref02_Cut.T2:Bool×List (List Nat×List Nat):=(true,[([],[]),([0],[0]),([],[]),([2],[2]),([1,3],[1,3]),([],[]),([4,5],[4,5]),([],[]),([7],[7]),([],[]),([8,9,6],[8,9]),([6,10,0,1,2,3,4,5,6],[6]),([10,11,0,1,2,3,4,5,6,7,8,9,10,11],[10])])
def tribunalref02_Cut.B2:List Nat:=[0,1,0,4,15,0,63,0,128,0,1023,2047,4095]
theorem tribunalref02_Cut.tab2:rtab .any (opsOf Tryz.f130 2)=tribunalref02_Cut.T2:=by kernel_rfl
theorem tribunalref02_Cut.bits2:waitsOk tribunalref02_Cut.T2.2 tribunalref02_Cut.B2=true:=by kernel_rfl
theorem tribunalref02_Cut.calls (k:Nat) (a0_0:Bool) (A0_1:Option Addr) (c0_1:Nat) (l0_1:List Int) (a1_0:Bool) (A1_1:Option Addr) (c1_1:Nat) (l1_1:List Int) (r1:Bool) (r2:List Int) (r3:Bool) (r4:List Int) (w:World) (hr0_1:Kd.C (Kd.int .u16) w A0_1 l0_1.length l0_1) (hc0_1:l0_1.length≤c0_1) (hr1_1:Kd.C (Kd.int .u16) w A1_1 l1_1.length l1_1) (hc1_1:l1_1.length≤c1_1) (h:tribunalref02_Cut.f k a0_0 l0_1 a1_0 l1_1=some (r1,r2,r3,r4)) :
  Calls Tryz.prog 130 #[.agg #[.bool a0_0,.slice A0_1 l0_1.length c0_1],.agg #[.bool a1_0,.slice A1_1 l1_1.length c1_1]] w fun e w'=>∃v1_ v3_:Value,e=.returned (.tuple #[.agg #[.bool r1,v1_],.agg #[.bool r3,v3_]])∧Kd.V (Kd.int .u16) 115 w' w.heap.size (fun k_=>(w.heap.size≤k_)) v1_ r2∧Kd.V (Kd.int .u16) 115 w' w.heap.size (fun k_=>(w.heap.size≤k_)) v3_ r4∧Below w.heap.size w w':=by
 have hu85:=Tryz.underlying85
 have K:=Kp.refl w
 replace K:=K.parV (Kd.V_mono (ok':=fun k=>k<w.heap.size) (Kd.V_mk (e:=115) (base:=0) hc0_1 (Kd.C_F (Kd.heap_int .u16) hr0_1)) (fun _ h=>h))
 clear hr0_1 hc0_1
 replace K:=K.parV (Kd.V_mono (ok':=fun k=>k<w.heap.size) (Kd.V_mk (e:=115) (base:=0) hc1_1 (Kd.C_F (Kd.heap_int .u16) hr1_1)) (fun _ h=>h))
 clear hr1_1 hc1_1
 try simp only[klv]at K
 rw[tribunalref02_Cut.f]at h
 replace h:=bindA h
 obtain⟨⟨x9,x10⟩,A11,h⟩:=h
 dsimp only at h
 go_enter Tryz.func130,Tryz.ntmps130
 go_wp2_with (first|(refine gd 2 rfl ?_;refine kbk 2 #[.bool a0_0,.slice A0_1 l0_1.length c0_1] 85 K.u ?_;clear K;intro g1 W2 K)|(refine gd 3 rfl ?_;refine kbk 3 #[.bool a1_0,.slice A1_1 l1_1.length c1_1] 85 K.u ?_;clear K;intro g3 W4 K)|(refine gd 4 rfl ?_;refine kbk 4 #[.bool false,.slice none 0 0] 85 K.u ?_;clear K;intro g5 W6 K)|(refine gd 5 rfl ?_;refine kbk 5 #[.bool false,.slice none 0 0] 85 K.u ?_;clear K;intro g7 W8 K;obtain⟨ua0,ub0⟩:=K.cell2 0 rfl;obtain⟨ua1,ub1⟩:=K.cell2 1 rfl)|(refine gd 13 rfl ?_;clear ua0 ub0 ua1 ub1;refine kgl (some 13) rfl rfl Tryz.func189 #[.slice A0_1 l0_1.length c0_1,.slice A1_1 l1_1.length c1_1] rfl ?_;refine(tribunalref02_divD.calls _ _ _ l0_1 _ _ l1_1 x9 x10 _ (K.C 0 rfl) (K.le 0 rfl) (K.C 1 rfl) (K.le 1 rfl) A11.out).mono ?_;rintro e W16 ⟨v12,v13,rfl,ho14,ho15,hb⟩;refine⟨_,rfl,?_⟩;have K1:=K.u.addF (fun _=>False) hb ho14;replace K:=K.u.moreF (fun _=>False) K1 ho15;clear K1;clear hb ho14 ho15;obtain⟨P17,c18,e19⟩:=K.slice 2 rfl;subst e19;obtain⟨P20,c21,e22⟩:=K.slice 3 rfl;subst e22))
 replace h:=bindA h
 obtain⟨⟨z23,x24⟩,A25,h⟩:=h
 dsimp only at h
 replace h:=bindA h
 obtain⟨⟨z26,x27⟩,A28,h⟩:=h
 dsimp only at h
 obtain⟨Bs,Vs,Os,hBs,hVs,hOs,K⟩:=K.abs
 have HS:Aside0 (∀l m o W,Kp w (Bs++l) m o W→W.cell? ⟨g1,0,none⟩=some (.bool a0_0)∧W.cell? ⟨g1,1,none⟩=some (.slice A0_1 l0_1.length c0_1)∧W.cell? ⟨g3,0,none⟩=some (.bool a1_0)∧W.cell? ⟨g3,1,none⟩=some (.slice A1_1 l1_1.length c1_1)):=⟨fun l m o W K=>by rw[hBs.out]at K;exact⟨K.cell 0 rfl 0 rfl,K.cell 0 rfl 1 rfl,K.cell 1 rfl 0 rfl,K.cell 1 rfl 1 rfl⟩⟩
 refine kpstart (n:=13) (ds:=[]) (S:=fun W=>W.cell? ⟨g1,0,none⟩=some (.bool a0_0)∧W.cell? ⟨g1,1,none⟩=some (.slice A0_1 l0_1.length c0_1)∧W.cell? ⟨g3,0,none⟩=some (.bool a1_0)∧W.cell? ⟨g3,1,none⟩=some (.slice A1_1 l1_1.length c1_1)) (bm_ 13 0) (by kernel_rfl) rfl rfl K (HS.out [] _ _) (fun W31 K hH=>?_)
 refine with_tabW tribunalref02_Cut.tab2 tribunalref02_Cut.bits2 (fun HT_ HW_=>?_)
 refine pu_ 0 16 ?_ (bm_ 13 1) rfl rfl (any_of HT_.out (by kernel_rfl)) (fun _ _ _ h=>h) (by rfl) ?_ ?_ ?_ ?_
 rotate_left
 ·intro w'
  go_simp
  with_reducible rfl
 rotate_left
 ·simp only[Act.put,kss,i64_w,i32_w]
  rfl
 refine tk_ 1 17 ?_ (bm_ 13 3) rfl rfl (take_ofW HT_.out HW_.out (by kernel_rfl)) (fun _ _ _ h=>h) (by rfl) ?_ hH ?_ ?_ ?_
 rotate_left
 ·rintro w' ⟨s0,s1,s2,s3⟩
  go_simp
  with_reducible rfl
 rotate_left
 ·simp only[Act.put,kss,i64_w,i32_w]
  rfl
 refine pu_ 2 18 ?_ (bm_ 13 7) rfl rfl (any_of HT_.out (by kernel_rfl)) (fun _ _ _ h=>h) (by rfl) ?_ ?_ ?_ ?_
 rotate_left
 ·intro w'
  go_simp
  with_reducible rfl
 rotate_left
 ·simp only[Act.put,kss,i64_w,i32_w]
  rfl
 refine tk_ 3 19 ?_ (bm_ 13 15) rfl rfl (take_ofW HT_.out HW_.out (by kernel_rfl)) (fun _ _ _ h=>h) (by rfl) ?_ hH ?_ ?_ ?_
 rotate_left
 ·rintro w' ⟨s0,s1,s2,s3⟩
  go_simp
  with_reducible rfl
 rotate_left
 ·simp only[Act.put,kss,i64_w,i32_w]
  rfl
 refine pu_ 4 20 ?_ (bm_ 13 31) rfl rfl (any_of HT_.out (by kernel_rfl)) (fun _ _ _ h=>h) (by rfl) ?_ ?_ ?_ ?_
 rotate_left
 ·intro w'
  go_simp
  with_reducible rfl
 rotate_left
 ·simp only[Act.put,kss,i64_w,i32_w]
  rfl
 refine pu_ 5 21 ?_ (bm_ 13 63) rfl rfl (any_of HT_.out (by kernel_rfl)) (fun _ _ _ h=>h) (by rfl) ?_ ?_ ?_ ?_
 rotate_left
 ·intro w'
  go_simp
  with_reducible rfl
 rotate_left
 ·simp only[Act.put,kss,i64_w,i32_w]
  rfl
 refine pu_ 7 23 ?_ (bm_ 13 191) rfl rfl (any_of HT_.out (by kernel_rfl)) (fun _ _ _ h=>h) (by rfl) ?_ ?_ ?_ ?_
 rotate_left
 ·intro w'
  go_simp
  with_reducible rfl
 rotate_left
 ·simp only[Act.put,kss,i64_w,i32_w]
  rfl
 refine tk_ 8 24 ?_ (bm_ 13 447) rfl rfl (take_ofW HT_.out HW_.out (by kernel_rfl)) (fun _ _ _ h=>h) (by rfl) ?_ hH ?_ ?_ ?_
 rotate_left
 ·rintro w' ⟨s0,s1,s2,s3⟩
  go_simp
  with_reducible rfl
 rotate_left
 ·simp only[Act.put,kss,i64_w,i32_w]
  rfl
 refine pu_ 9 25 ?_ (bm_ 13 959) rfl rfl (any_of HT_.out (by kernel_rfl)) (fun _ _ _ h=>h) (by rfl) ?_ ?_ ?_ ?_
 rotate_left
 ·intro w'
  go_simp
  with_reducible rfl
 rotate_left
 ·simp only[Act.put,kss,i64_w,i32_w]
  rfl
 refine one_ (i:=6) (N:=some 22) (bm_ 13 1023) rfl rfl (one_of HT_.out (by kernel_rfl)) (by decide) (fun Kc hK=>?_)
 refine kgo Tryz.func51 #[.bool (a0_0 != a1_0),.slice P17 x9.length c18] (by rfl) rfl rfl ?_
 refine(tribunalref02_Make.calls _ (a0_0 != a1_0) _ _ _ x9 z23 x24 _ (K.V 2 (hv hVs rfl)) A25.out).mono ?_
 rintro e W' ⟨v29,rfl,ho32,hb⟩
 replace K:=K.addI 0 (fun _=>False) hb ho32 (fun _ h=>h)
 clear hb ho32
 refine⟨_,rfl,hK.out _ _ (HS.out _ _ _ _ K) fun hH=>?_⟩
 clear hK Kc
 refine norm_ (a':=?_) ?_ ?_
 rotate_left
 ·show Act.put _ (some 22) _=_
  simp only[Act.put,kss,i64_w,i32_w]
  rfl
 refine one_ (i:=10) (N:=some 26) (bm_ 13 2047) rfl rfl (one_of HT_.out (by kernel_rfl)) (by decide) (fun Kc hK=>?_)
 refine kgo Tryz.func51 #[.bool a0_0,.slice P20 x10.length c21] (by rfl) rfl rfl ?_
 refine(tribunalref02_Make.calls _ a0_0 _ _ _ x10 z26 x27 _ (K.V 3 (hv hVs rfl)) A28.out).mono ?_
 rintro e W' ⟨v30,rfl,ho33,hb⟩
 replace K:=K.addI 1 (fun _=>False) hb ho33 (fun _ h=>h)
 clear hb ho33
 refine⟨_,rfl,hK.out _ _ (HS.out _ _ _ _ K) fun hH=>?_⟩
 clear hK Kc
 refine norm_ (a':=?_) ?_ ?_
 rotate_left
 ·show Act.put _ (some 26) _=_
  simp only[Act.put,kss,i64_w,i32_w]
  rfl
 obtain⟨P34,c35,e36⟩:=K.slice 4 (hv hVs rfl)
 subst e36
 obtain⟨P37,c38,e39⟩:=K.slice 5 (hv hVs rfl)
 subst e39
 rw[hBs.out,hVs.out,hOs.out]at K
 simp only[kls,klv]at K
 clear hBs hVs hOs HS hH
 refine ko2 (i:=11) (bm_ 13 4095) 2 (.bool z23) (.slice P34 x24.length c35) K rfl rfl rfl (one_of HT_.out (by kernel_rfl)) (by decide) (by rfl) (fun W K=>⟨K.cell 0 rfl 0 rfl,K.cell 0 rfl 1 rfl,K.cell 1 rfl 0 rfl,K.cell 1 rfl 1 rfl⟩) ?_
 clear K
 intro W40 K
 simp only[kls,klv]at K
 refine ko2 (i:=12) (bm_ 13 8191) 3 (.bool z26) (.slice P37 x27.length c38) K rfl rfl rfl (one_of HT_.out (by kernel_rfl)) (by decide) (by rfl) (fun W K=>⟨K.cell 0 rfl 0 rfl,K.cell 0 rfl 1 rfl,K.cell 1 rfl 0 rfl,K.cell 1 rfl 1 rfl⟩) ?_
 clear K
 intro W41 K
 simp only[kls,klv]at K
 refine done_ (done_of HT_.out (by kernel_rfl)) ?_
 clear HT_ HW_
 simp only[Option.some.injEq,Prod.mk.injEq]at h
 obtain⟨rfl,rfl,rfl,rfl⟩:=h
 go_wp2
 refine bodyPost_ret (results_list (rs:=[.cell 4 85,.cell 5 85]) rfl (by simp) (.cell g5 85 #[.bool z23,.slice P34 x24.length c35] (0,0) _ rfl (K.u.heap 2 rfl) Tryz.underlying85 rfl (by kernel_rfl) (.cell g7 85 #[.bool z26,.slice P37 x27.length c38] (0,0) _ rfl (K.u.heap 3 rfl) Tryz.underlying85 rfl (by kernel_rfl) .nil))) rfl ?_
 exact⟨_,_,rfl,K.u.hand 4 rfl (fun _ h=>h.elim (fun h=>h.elim) id),K.u.hand 5 rfl (fun _ h=>h.elim (fun h=>h.elim) id),K.u.below⟩
end Go.Proofs.YtikencoikigllaaGreatDoor.PRy
namespace Go.Proofs.YtikencoikigllaaGreatDoor.PRy
open Go.RowKit Go.Proofs.YtikencoikigllaaGreatDoorW.PrintWords Go.Proofs.YtikencoikigllaaGreatDoorW.PrintLast Go.Proofs.YtikencoikigllaaGreatDoorW.PrintMore
open Go.Proofs.YtikencoikigllaaGreatDoor.Mine
attribute [local go_sem] max2_int min2_int max_two min_two max_three min_three max_four min_four
mutual
def tribunalref02_addD.l0:Nat→List Int→List Int→List Int→Int→Int→Option (List Int)
 | 0,_,_,_,_,_=>none
 | k+1,x0,x1,x5,x6,x7=>if x7<(x0.length:Int) then(tribunalref02_addD.j1 k x0 x1 x5 x6 x7 true) else(if x7<(x1.length:Int) then(tribunalref02_addD.j1 k x0 x1 x5 x6 x7 true) else(tribunalref02_addD.j1 k x0 x1 x5 x6 x7 (decide (x6>0))))
def tribunalref02_addD.j1:Nat→List Int→List Int→List Int→Int→Int→Bool→Option (List Int)
 | 0,_,_,_,_,_,_=>none
 | k+1,x0,x1,x5,x6,x7,x21=>if x21=true then(if x7<(x0.length:Int) then(if 0≤x7 then(if x7<(x1.length:Int) then(if x5.length<70368744177664 then(tribunalref02_addD.l0 k x0 x1 (x5++[IntKind.u16.wrap (((x6+(rd x0 x7))+(rd x1 x7))%4294967296)]) ((((x6+(rd x0 x7))+(rd x1 x7))%4294967296)/65536) (wrap64 (x7+1))) else(none)) else(if x5.length<70368744177664 then(tribunalref02_addD.l0 k x0 x1 (x5++[IntKind.u16.wrap ((x6+(rd x0 x7))%4294967296)]) (((x6+(rd x0 x7))%4294967296)/65536) (wrap64 (x7+1))) else(none))) else(none)) else(if x7<(x1.length:Int) then(if 0≤x7 then(if x5.length<70368744177664 then(tribunalref02_addD.l0 k x0 x1 (x5++[IntKind.u16.wrap ((x6+(rd x1 x7))%4294967296)]) (((x6+(rd x1 x7))%4294967296)/65536) (wrap64 (x7+1))) else(none)) else(none)) else(if x5.length<70368744177664 then(tribunalref02_addD.l0 k x0 x1 (x5++[IntKind.u16.wrap (x6)]) (x6/65536) (wrap64 (x7+1))) else(none)))) else(some x5)
end
def tribunalref02_addD.f (k:Nat) (l0:List Int) (l1:List Int):Option (List Int):=tribunalref02_addD.l0 k l0 l1 ([]:List Int) 0 0
theorem tribunalref02_addD.calls (k:Nat) (A0:Option Addr) (c0:Nat) (l0:List Int) (A1:Option Addr) (c1:Nat) (l1:List Int) (r:List Int) (w:World) (hr0:Kd.C (Kd.int .u16) w A0 l0.length l0) (hc0:l0.length≤c0) (hr1:Kd.C (Kd.int .u16) w A1 l1.length l1) (hc1:l1.length≤c1) (h:tribunalref02_addD.f k l0 l1=some r) :
  Calls Tryz.prog 115 #[.slice A0 l0.length c0,.slice A1 l1.length c1] w fun e w'=>∃v0_:Value,e=.returned (v0_)∧Kd.R (Kd.int .u16) 115 w' w.heap.size (fun _=>True) v0_ r∧Below w.heap.size w w':=by
 have HR0:=Aside0.mk hr0
 have HC0:=Aside0.mk hc0
 clear hr0 hc0
 have HR1:=Aside0.mk hr1
 have HC1:=Aside0.mk hc1
 clear hr1 hc1
 have HB:=Aside0.mk (Below.refl w.heap.size w)
 have H:(tribunalref02_addD.l0 k l0 l1 ([]:List Int) 0 0)=some r:=h
 clear h
 have H':=Aside0.mk H
 clear H
 go_enter Tryz.func115,Tryz.ntmps115
 go_wp2
 go_loopg [5,6,7] k (fun kq v5 v6 v7 w'=>∃(x5_1:List Int) (x6_1:Int) (x7_1:Int),v6=.int .u32 x6_1∧v7=.int .i64 x7_1∧Aside0 (tribunalref02_addD.l0 kq l0 l1 x5_1 x6_1 x7_1=some r)∧Aside0 (kq≤k)∧Aside0 (Kd.R (Kd.int .u16) 115 w' w.heap.size (fun _=>True) v5 x5_1)∧Aside0 (Below w.heap.size w w'))
 case atStart=>exact⟨(([]:List Int)),(0),(0),(by first|rfl|(simp;done)|(simp[*];done)),(by first|rfl|(simp;done)|(simp[*];done)),H',⟨Nat.le_refl _⟩,⟨by first|exact Kd.R_nil _ _ _ _ _|exact Kd.N_nil _ _ _ _ _|exact Kd.V_nil _ _ _ _ _|exact Kd.Q_nil _ _ _ _ _|exact Kd.S_nil _ _ _ _ _⟩,⟨khu HB.out⟩⟩
 case round=>
  clear H'
  try clear c1
  try clear p2
  obtain⟨x5_1,x6_1,x7_1,rfl,rfl,HA,HK1,HO_5,HB⟩:=hrel
  cases gk with
  | zero=>exact absurd HA.out (by simp[tribunalref02_addD.l0])
  | succ k1=>
   have H:=HA.out
   clear HA
   simp only[tribunalref02_addD.l0]at H
   have HC3:=Aside0.mk H
   clear H
   go_upto_region 4 with(fail)
   go_cut [21] (fun v21 wc=>∃(kq:Nat) (x21_2:Bool),v21=.bool x21_2∧Aside0 (tribunalref02_addD.j1 kq l0 l1 x5_1 x6_1 x7_1 x21_2=some r)∧Aside0 (kq≤k1)∧Aside0 (Kd.R (Kd.int .u16) 115 wc w.heap.size (fun _=>True) u5 x5_1)∧Aside0 (Below w.heap.size w wc))
   case first=>
    have H:=HC3.out
    clear HC3
    by_cases c4:x7_1<(l0.length:Int)
    ·rw[if_pos c4]at H
     have c4b0:decide (x7_1<(l0.length:Int))=true:=decide_eq_true c4
     clear c4
     (first|rw[c4b0]|rw[c4b1]|(simp only[i64_w,i32_w];rw[c4b0])|skip)
     have H':=Aside0.mk H
     clear H
     go_wp2
     go_meet
     case rel=>exact⟨_,(true),(by first|rfl|(simp;done)|(simp[*];done)),H',⟨by have:=HK1.out;first|omega|exact Nat.le_refl _⟩,⟨kru HO_5.out⟩,⟨khu HB.out⟩⟩
    rw[if_neg c4]at H
    have c4b0:decide (x7_1<(l0.length:Int))=false:=decide_eq_false c4
    clear c4
    (first|rw[c4b0]|rw[c4b1]|(simp only[i64_w,i32_w];rw[c4b0])|skip)
    by_cases c5:x7_1<(l1.length:Int)
    ·rw[if_pos c5]at H
     have c5b0:decide (x7_1<(l1.length:Int))=true:=decide_eq_true c5
     clear c5
     have H':=Aside0.mk H
     clear H
     go_wp2
     go_meet
     case rel=>exact⟨_,(true),(by first|rfl|(simp;done)|(simp[*];done)),H',⟨by have:=HK1.out;first|omega|exact Nat.le_refl _⟩,⟨kru HO_5.out⟩,⟨khu HB.out⟩⟩
    rw[if_neg c5]at H
    have c5b0:decide (x7_1<(l1.length:Int))=false:=decide_eq_false c5
    clear c5
    have H':=Aside0.mk H
    clear H
    go_wp2
    go_meet
    case rel=>exact⟨_,(decide (x6_1>0)),(by first|rfl|(simp;done)|(simp[*];done)),H',⟨by have:=HK1.out;first|omega|exact Nat.le_refl _⟩,⟨kru HO_5.out⟩,⟨khu HB.out⟩⟩
   case rest=>
    clear HC3
    try clear c1
    try clear p2
    try clear c4
    try clear c4b0
    try clear c4b1
    try clear c5
    try clear c5b0
    try clear p2
    obtain⟨kq,x21_2,rfl,HA,HJ2,HO_5,HB⟩:=hcut
    cases kq with
    | zero=>exact absurd HA.out (by simp[tribunalref02_addD.j1])
    | succ kj2=>
     have H:=HA.out
     clear HA
     simp only[tribunalref02_addD.j1]at H
     by_cases c6:x21_2=true
     ·subst c6
      have H1:(if x7_1<(l0.length:Int) then(if 0≤x7_1 then(if x7_1<(l1.length:Int) then(if x5_1.length<70368744177664 then(tribunalref02_addD.l0 kj2 l0 l1 (x5_1++[IntKind.u16.wrap (((x6_1+(rd l0 x7_1))+(rd l1 x7_1))%4294967296)]) ((((x6_1+(rd l0 x7_1))+(rd l1 x7_1))%4294967296)/65536) (wrap64 (x7_1+1))) else(none)) else(if x5_1.length<70368744177664 then(tribunalref02_addD.l0 kj2 l0 l1 (x5_1++[IntKind.u16.wrap ((x6_1+(rd l0 x7_1))%4294967296)]) (((x6_1+(rd l0 x7_1))%4294967296)/65536) (wrap64 (x7_1+1))) else(none))) else(none)) else(if x7_1<(l1.length:Int) then(if 0≤x7_1 then(if x5_1.length<70368744177664 then(tribunalref02_addD.l0 kj2 l0 l1 (x5_1++[IntKind.u16.wrap ((x6_1+(rd l1 x7_1))%4294967296)]) (((x6_1+(rd l1 x7_1))%4294967296)/65536) (wrap64 (x7_1+1))) else(none)) else(none)) else(if x5_1.length<70368744177664 then(tribunalref02_addD.l0 kj2 l0 l1 (x5_1++[IntKind.u16.wrap (x6_1)]) (x6_1/65536) (wrap64 (x7_1+1))) else(none))))=some r:=by rw[if_pos rfl]at H;exact H
      clear H
      have H:=H1
      clear H1
      by_cases c7:x7_1<(l0.length:Int)
      ·rw [if_pos c7]at H
       have c7b0:decide (x7_1<(l0.length:Int))=true:=decide_eq_true c7
       clear c7
       by_cases c8:0≤x7_1
       ·rw[if_pos c8]at H
        have c8b0:decide (0≤x7_1)=true:=decide_eq_true c8
        clear c8
        by_cases c9:x7_1<(l1.length:Int)
        ·rw[if_pos c9]at H
         have c9b0:decide (x7_1<(l1.length:Int))=true:=decide_eq_true c9
         clear c9
         by_cases c10:x5_1.length<70368744177664
         ·rw[if_pos c10]at H
          have LMc10:=Aside0.mk c10
          clear c10
          obtain⟨y551,hy551⟩:∃y_:List Int,y_=(x5_1++[IntKind.u16.wrap (((x6_1+(rd l0 x7_1))+(rd l1 x7_1))%4294967296)]):=⟨_,rfl⟩
          replace H:(tribunalref02_addD.l0 kj2 l0 l1 y551 ((((x6_1+(rd l0 x7_1))+(rd l1 x7_1))%4294967296)/65536) (wrap64 (x7_1+1)))=some r:=by first|(rw[hy551];with_reducible exact H)|(have H2_:=(Option.bind_some _ _).symm.trans H;rw[hy551];with_reducible exact H2_)|(have H2_:=(Option.bind_some _ _).symm.trans H;with_reducible exact H2_)|with_reducible exact H|(rw[hy551];exact H)|exact H
          have Ny551:=Aside0.mk hy551
          clear hy551
          have H':=Aside0.mk H
          clear H
          have p549:0≤(x7_1:Int):=of_decide_eq_true ‹_›
          have q549:x7_1<(l0.length:Int):=of_decide_eq_true ‹_›
          obtain⟨ad549,e549,hx549_0⟩:=Kd.at_int HR0.out x7_1 p549 q549
          cases e549
          replace hx549_0:=(HB.out.cell (World.block_lt_of_cell? w _ hx549_0)).trans hx549_0
          replace p549:=eq_true p549
          replace q549:=eq_true q549
          have p550:0≤(x7_1:Int):=of_decide_eq_true ‹_›
          have q550:x7_1<(l1.length:Int):=of_decide_eq_true ‹_›
          obtain⟨ad550,e550,hx550_0⟩:=Kd.at_int HR1.out x7_1 p550 q550
          cases e550
          replace hx550_0:=(HB.out.cell (World.block_lt_of_cell? w _ hx550_0)).trans hx550_0
          replace p550:=eq_true p550
          replace q550:=eq_true q550
          go_wp2_with (first|((with_reducible refine gate_builtin (b:=.append) (xs:=#[.tmp 46,.tmp 49]) rfl ?_);(try(refine gate_guard (by rfl) ?_;dsimp only));at_builtin;refine Kd.R_append (Kd.int .u16) (w0:=w) w.heap.size rfl (.tmp 46) (.tmp 49) 83 115 (.int .u16 0) 2 rfl Tryz.underlying83 info115 rfl (by decide) (by omega) u5 x5_1 (IntKind.u16.wrap (((x6_1+(rd l0 x7_1))+(rd l1 x7_1))%4294967296)) [.int .u16 (IntKind.u16.wrap (((x6_1+(rd l0 x7_1))+(rd l1 x7_1))%4294967296))] (fun _=>True) (fun _=>False) rfl rfl ?aP (fun _ hk=>hk.elim) ?aF ?aO ?aB ?aS ?aL ?_;(case aP=>exact rfl);(case aB=>exact(khu HB.out));(case aF=>exact(fun _ _=>trivial));(case aO=>exact(kru HO_5.out));(case aS=>exact(below_size (khu HB.out)));(case aL=>have:=LMc10.out;omega);intro v552 w11 ho hb hg hat;rw[←Ny551.out]at ho;replace HB:=Aside0.mk (hb);have HO553:=Aside0.mk (ho);clear HO_5;clear ho hb hg hat))
          go_roundg kj2
          case measure=>have:=HK1.out;have:=HJ2.out;omega
          case rel=>exact⟨(y551),((((x6_1+(rd l0 x7_1))+(rd l1 x7_1))%4294967296)/65536),(wrap64 (x7_1+1)),(by first|rfl|(simp;done)|(simp[*];done)),(by first|rfl|(simp;done)|(simp[*];done)),H',⟨by have:=HK1.out;have:=HJ2.out;omega⟩,⟨kru HO553.out⟩,⟨khu HB.out⟩⟩
         rw[if_neg c10]at H
         exact absurd H (by simp)
        rw[if_neg c9]at H
        have c9b0:decide (x7_1<(l1.length:Int))=false:=decide_eq_false c9
        clear c9
        by_cases c12:x5_1.length<70368744177664
        ·rw[if_pos c12]at H
         have LMc12:=Aside0.mk c12
         clear c12
         obtain⟨y554,hy554⟩:∃y_:List Int,y_=(x5_1++[IntKind.u16.wrap ((x6_1+(rd l0 x7_1))%4294967296)]):=⟨_,rfl⟩
         replace H:(tribunalref02_addD.l0 kj2 l0 l1 y554 (((x6_1+(rd l0 x7_1))%4294967296)/65536) (wrap64 (x7_1+1)))=some r:=by first|(rw[hy554];with_reducible exact H)|(have H2_:=(Option.bind_some _ _).symm.trans H;rw[hy554];with_reducible exact H2_)|(have H2_:=(Option.bind_some _ _).symm.trans H;with_reducible exact H2_)|with_reducible exact H|(rw[hy554];exact H)|exact H
         have Ny554:=Aside0.mk hy554
         clear hy554
         have H':=Aside0.mk H
         clear H
         have p549:0≤(x7_1:Int):=of_decide_eq_true ‹_›
         have q549:x7_1<(l0.length:Int):=of_decide_eq_true ‹_›
         obtain⟨ad549,e549,hx549_0⟩:=Kd.at_int HR0.out x7_1 p549 q549
         cases e549
         replace hx549_0:=(HB.out.cell (World.block_lt_of_cell? w _ hx549_0)).trans hx549_0
         replace p549:=eq_true p549
         replace q549:=eq_true q549
         go_wp2_with (first|((with_reducible refine gate_builtin (b:=.append) (xs:=#[.tmp 46,.tmp 49]) rfl ?_);(try(refine gate_guard (by rfl) ?_;dsimp only));at_builtin;refine Kd.R_append (Kd.int .u16) (w0:=w) w.heap.size rfl (.tmp 46) (.tmp 49) 83 115 (.int .u16 0) 2 rfl Tryz.underlying83 info115 rfl (by decide) (by omega) u5 x5_1 (IntKind.u16.wrap ((x6_1+(rd l0 x7_1))%4294967296)) [.int .u16 (IntKind.u16.wrap ((x6_1+(rd l0 x7_1))%4294967296))] (fun _=>True) (fun _=>False) rfl rfl ?aP (fun _ hk=>hk.elim) ?aF ?aO ?aB ?aS ?aL ?_;(case aP=>exact rfl);(case aB=>exact(khu HB.out));(case aF=>exact(fun _ _=>trivial));(case aO=>exact(kru HO_5.out));(case aS=>exact(below_size (khu HB.out)));(case aL=>have:=LMc12.out;omega);intro v555 w13 ho hb hg hat;rw[←Ny554.out]at ho;replace HB:=Aside0.mk (hb);have HO556:=Aside0.mk (ho);clear HO_5;clear ho hb hg hat))
         go_roundg kj2
         case measure=>have:=HK1.out;have:=HJ2.out;omega
         case rel=>exact⟨(y554),(((x6_1+(rd l0 x7_1))%4294967296)/65536),(wrap64 (x7_1+1)),(by first|rfl|(simp;done)|(simp[*];done)),(by first|rfl|(simp;done)|(simp[*];done)),H',⟨by have:=HK1.out;have:=HJ2.out;omega⟩,⟨kru HO556.out⟩,⟨khu HB.out⟩⟩
        rw[if_neg c12]at H
        exact absurd H (by simp)
       rw[if_neg c8]at H
       exact absurd H (by simp)
      rw[if_neg c7]at H
      have c7b0:decide (x7_1<(l0.length:Int))=false:=decide_eq_false c7
      clear c7
      by_cases c14:x7_1<(l1.length:Int)
      ·rw[if_pos c14]at H
       have c14b0:decide (x7_1<(l1.length:Int))=true:=decide_eq_true c14
       clear c14
       by_cases c15:0≤x7_1
       ·rw[if_pos c15]at H
        have c15b0:decide (0≤x7_1)=true:=decide_eq_true c15
        clear c15
        by_cases c16:x5_1.length<70368744177664
        ·rw[if_pos c16]at H
         have LMc16:=Aside0.mk c16
         clear c16
         obtain⟨y558,hy558⟩:∃y_:List Int,y_=(x5_1++[IntKind.u16.wrap ((x6_1+(rd l1 x7_1))%4294967296)]):=⟨_,rfl⟩
         replace H:(tribunalref02_addD.l0 kj2 l0 l1 y558 (((x6_1+(rd l1 x7_1))%4294967296)/65536) (wrap64 (x7_1+1)))=some r:=by first|(rw[hy558];with_reducible exact H)|(have H2_:=(Option.bind_some _ _).symm.trans H;rw[hy558];with_reducible exact H2_)|(have H2_:=(Option.bind_some _ _).symm.trans H;with_reducible exact H2_)|with_reducible exact H|(rw[hy558];exact H)|exact H
         have Ny558:=Aside0.mk hy558
         clear hy558
         have H':=Aside0.mk H
         clear H
         have p557:0≤(x7_1:Int):=of_decide_eq_true ‹_›
         have q557:x7_1<(l1.length:Int):=of_decide_eq_true ‹_›
         obtain⟨ad557,e557,hx557_0⟩:=Kd.at_int HR1.out x7_1 p557 q557
         cases e557
         replace hx557_0:=(HB.out.cell (World.block_lt_of_cell? w _ hx557_0)).trans hx557_0
         replace p557:=eq_true p557
         replace q557:=eq_true q557
         go_wp2_with (first|((with_reducible refine gate_builtin (b:=.append) (xs:=#[.tmp 46,.tmp 49]) rfl ?_);(try(refine gate_guard (by rfl) ?_;dsimp only));at_builtin;refine Kd.R_append (Kd.int .u16) (w0:=w) w.heap.size rfl (.tmp 46) (.tmp 49) 83 115 (.int .u16 0) 2 rfl Tryz.underlying83 info115 rfl (by decide) (by omega) u5 x5_1 (IntKind.u16.wrap ((x6_1+(rd l1 x7_1))%4294967296)) [.int .u16 (IntKind.u16.wrap ((x6_1+(rd l1 x7_1))%4294967296))] (fun _=>True) (fun _=>False) rfl rfl ?aP (fun _ hk=>hk.elim) ?aF ?aO ?aB ?aS ?aL ?_;(case aP=>exact rfl);(case aB=>exact(khu HB.out));(case aF=>exact(fun _ _=>trivial));(case aO=>exact(kru HO_5.out));(case aS=>exact(below_size (khu HB.out)));(case aL=>have:=LMc16.out;omega);intro v559 w17 ho hb hg hat;rw[←Ny558.out]at ho;replace HB:=Aside0.mk (hb);have HO560:=Aside0.mk (ho);clear HO_5;clear ho hb hg hat))
         go_roundg kj2
         case measure=>have:=HK1.out;have:=HJ2.out;omega
         case rel=>exact⟨(y558),(((x6_1+(rd l1 x7_1))%4294967296)/65536),(wrap64 (x7_1+1)),(by first|rfl|(simp;done)|(simp[*];done)),(by first|rfl|(simp;done)|(simp[*];done)),H',⟨by have:=HK1.out;have:=HJ2.out;omega⟩,⟨kru HO560.out⟩,⟨khu HB.out⟩⟩
        rw[if_neg c16]at H
        exact absurd H (by simp)
       rw[if_neg c15]at H
       exact absurd H (by simp)
      rw[if_neg c14]at H
      have c14b0:decide (x7_1<(l1.length:Int))=false:=decide_eq_false c14
      clear c14
      by_cases c18:x5_1.length<70368744177664
      ·rw[if_pos c18]at H
       have LMc18:=Aside0.mk c18
       clear c18
       obtain⟨y561,hy561⟩:∃y_:List Int,y_=(x5_1++[IntKind.u16.wrap (x6_1)]):=⟨_,rfl⟩
       replace H:(tribunalref02_addD.l0 kj2 l0 l1 y561 (x6_1/65536) (wrap64 (x7_1+1)))=some r:=by first|(rw[hy561];with_reducible exact H)|(have H2_:=(Option.bind_some _ _).symm.trans H;rw[hy561];with_reducible exact H2_)|(have H2_:=(Option.bind_some _ _).symm.trans H;with_reducible exact H2_)|with_reducible exact H|(rw[hy561];exact H)|exact H
       have Ny561:=Aside0.mk hy561
       clear hy561
       have H':=Aside0.mk H
       clear H
       go_wp2_with (first|((with_reducible refine gate_builtin (b:=.append) (xs:=#[.tmp 46,.tmp 49]) rfl ?_);(try(refine gate_guard (by rfl) ?_;dsimp only));at_builtin;refine Kd.R_append (Kd.int .u16) (w0:=w) w.heap.size rfl (.tmp 46) (.tmp 49) 83 115 (.int .u16 0) 2 rfl Tryz.underlying83 info115 rfl (by decide) (by omega) u5 x5_1 (IntKind.u16.wrap (x6_1)) [.int .u16 (IntKind.u16.wrap (x6_1))] (fun _=>True) (fun _=>False) rfl rfl ?aP (fun _ hk=>hk.elim) ?aF ?aO ?aB ?aS ?aL ?_;(case aP=>exact rfl);(case aB=>exact(khu HB.out));(case aF=>exact(fun _ _=>trivial));(case aO=>exact(kru HO_5.out));(case aS=>exact(below_size (khu HB.out)));(case aL=>have:=LMc18.out;omega);intro v562 w19 ho hb hg hat;rw[←Ny561.out]at ho;replace HB:=Aside0.mk (hb);have HO563:=Aside0.mk (ho);clear HO_5;clear ho hb hg hat))
       go_roundg kj2
       case measure=>have:=HK1.out;have:=HJ2.out;omega
       case rel=>exact⟨(y561),(x6_1/65536),(wrap64 (x7_1+1)),(by first|rfl|(simp;done)|(simp[*];done)),(by first|rfl|(simp;done)|(simp[*];done)),H',⟨by have:=HK1.out;have:=HJ2.out;omega⟩,⟨kru HO563.out⟩,⟨khu HB.out⟩⟩
      rw[if_neg c18]at H
      exact absurd H (by simp)
     replace c6:=Bool.eq_false_iff.mpr c6
     subst c6
     have H1:(some x5_1)=some r:=by rw[if_neg (show ¬(false=true) by decide)]at H;exact H
     clear H
     have H:=H1
     clear H1
     obtain rfl:=Option.some.inj H
     go_wp2
     go_ret
     exact⟨_,by first|rfl|(simp[*,errW_none,errW_some]<;>rfl),kru HO_5.out,khu HB.out⟩
end Go.Proofs.YtikencoikigllaaGreatDoor.PRy
namespace Go.Proofs.YtikencoikigllaaGreatDoor.PRy
open Go.RowKit Go.Proofs.YtikencoikigllaaGreatDoorW.PrintWords Go.Proofs.YtikencoikigllaaGreatDoorW.PrintLast Go.Proofs.YtikencoikigllaaGreatDoorW.PrintMore
open Go.Proofs.YtikencoikigllaaGreatDoor.Mine
attribute [local go_sem] max2_int min2_int max_two min_two max_three min_three max_four min_four
def tribunalref02_Plus.f (k:Nat) (a0_0:Bool) (l0_1:List Int) (a1_0:Bool) (l1_1:List Int):Option (Bool×List Int):=if(a0_0==a1_0)=true then((tribunalref02_addD.f k l0_1 l1_1).bind fun t567=>((tribunalref02_Make.f k a0_0 t567).bind fun bt570=>(some (bt570.1,bt570.2)))) else((tribunalref02_cmpD.f k l0_1 l1_1).bind fun t574=>(if t574≥0 then((tribunalref02_subD.f k l0_1 l1_1).bind fun t575=>((tribunalref02_Make.f k a0_0 t575).bind fun bt578=>(some (bt578.1,bt578.2)))) else((tribunalref02_subD.f k l1_1 l0_1).bind fun t582=>((tribunalref02_Make.f k a1_0 t582).bind fun bt585=>(some (bt585.1,bt585.2))))))
def tribunalref02_Plus.T2:Bool×List (List Nat×List Nat):=(true,[([],[]),([0],[0]),([],[]),([2],[2]),([],[]),([4],[4]),([3,5],[3,5]),([1,6,6],[1,6]),([7,7,0,1,2,3,4,5,6,7],[7])])
def tribunalref02_Plus.B2:List Nat:=[0,1,0,4,0,16,60,127,255]
theorem tribunalref02_Plus.tab2:rtab .any (opsOf Tryz.f131 2)=tribunalref02_Plus.T2:=by kernel_rfl
theorem tribunalref02_Plus.bits2:waitsOk tribunalref02_Plus.T2.2 tribunalref02_Plus.B2=true:=by kernel_rfl
def tribunalref02_Plus.T4:Bool×List (List Nat×List Nat):=(true,[([],[]),([0],[0]),([],[]),([2],[2]),([],[]),([4],[4]),([3,5],[3,5]),([1,6,6],[1,6]),([7,7,0,1,2,3,4,5,6,7],[7])])
def tribunalref02_Plus.B4:List Nat:=[0,1,0,4,0,16,60,127,255]
theorem tribunalref02_Plus.tab4:rtab .any (opsOf Tryz.f131 4)=tribunalref02_Plus.T4:=by kernel_rfl
theorem tribunalref02_Plus.bits4:waitsOk tribunalref02_Plus.T4.2 tribunalref02_Plus.B4=true:=by kernel_rfl
def tribunalref02_Plus.T5:Bool×List (List Nat×List Nat):=(true,[([],[]),([0],[0]),([],[]),([2],[2]),([],[]),([4],[4]),([3,5],[3,5]),([1,6,6],[1,6]),([7,7,0,1,2,3,4,5,6,7],[7])])
def tribunalref02_Plus.B5:List Nat:=[0,1,0,4,0,16,60,127,255]
theorem tribunalref02_Plus.tab5:rtab .any (opsOf Tryz.f131 5)=tribunalref02_Plus.T5:=by kernel_rfl
theorem tribunalref02_Plus.bits5:waitsOk tribunalref02_Plus.T5.2 tribunalref02_Plus.B5=true:=by kernel_rfl
theorem tribunalref02_Plus.calls (k:Nat) (a0_0:Bool) (A0_1:Option Addr) (c0_1:Nat) (l0_1:List Int) (a1_0:Bool) (A1_1:Option Addr) (c1_1:Nat) (l1_1:List Int) (r1:Bool) (r2:List Int) (w:World) (hr0_1:Kd.C (Kd.int .u16) w A0_1 l0_1.length l0_1) (hc0_1:l0_1.length≤c0_1) (hr1_1:Kd.C (Kd.int .u16) w A1_1 l1_1.length l1_1) (hc1_1:l1_1.length≤c1_1) (h:tribunalref02_Plus.f k a0_0 l0_1 a1_0 l1_1=some (r1,r2)) :
  Calls Tryz.prog 131 #[.agg #[.bool a0_0,.slice A0_1 l0_1.length c0_1],.agg #[.bool a1_0,.slice A1_1 l1_1.length c1_1]] w fun e w'=>∃v1_:Value,e=.returned (.agg #[.bool r1,v1_])∧Kd.V (Kd.int .u16) 115 w' w.heap.size (fun k_=>(w.heap.size≤k_)) v1_ r2∧Below w.heap.size w w':=by
 have hu85:=Tryz.underlying85
 have K:=Kp.refl w
 replace K:=K.parV (Kd.V_mono (ok':=fun k=>k<w.heap.size) (Kd.V_mk (e:=115) (base:=0) hc0_1 (Kd.C_F (Kd.heap_int .u16) hr0_1)) (fun _ h=>h))
 clear hr0_1 hc0_1
 replace K:=K.parV (Kd.V_mono (ok':=fun k=>k<w.heap.size) (Kd.V_mk (e:=115) (base:=0) hc1_1 (Kd.C_F (Kd.heap_int .u16) hr1_1)) (fun _ h=>h))
 clear hr1_1 hc1_1
 try simp only[klv]at K
 rw[tribunalref02_Plus.f]at h
 by_cases c_0:(a0_0==a1_0)=true
 ·rw[if_pos c_0]at h
  have c_0b:decide (a0_0=a1_0)=true:=by simpa using c_0
  go_enter Tryz.func131,Tryz.ntmps131
  go_wp2_with (first|(refine gd 2 rfl ?_;refine kbk 2 #[.bool a0_0,.slice A0_1 l0_1.length c0_1] 85 K.u ?_;clear K;intro g1 W2 K)|(refine gd 3 rfl ?_;refine kbk 3 #[.bool a1_0,.slice A1_1 l1_1.length c1_1] 85 K.u ?_;clear K;intro g3 W4 K)|(refine gd 4 rfl ?_;refine kbk 4 #[.bool false,.slice none 0 0] 85 K.u ?_;clear K;intro g5 W6 K;obtain⟨ua0,ub0⟩:=K.cell2 0 rfl;obtain⟨ua1,ub1⟩:=K.cell2 1 rfl))
  clear ua0 ub0 ua1 ub1
  replace h:=bindA h
  obtain⟨x7,A8,h⟩:=h
  replace h:=bindA h
  obtain⟨⟨z9,x10⟩,A11,h⟩:=h
  dsimp only at h
  obtain⟨Bs,Vs,Os,hBs,hVs,hOs,K⟩:=K.abs
  have HS:Aside0 (∀l m o W,Kp w (Bs++l) m o W→W.cell? ⟨g1,0,none⟩=some (.bool a0_0)∧W.cell? ⟨g1,1,none⟩=some (.slice A0_1 l0_1.length c0_1)∧W.cell? ⟨g3,0,none⟩=some (.bool a1_0)∧W.cell? ⟨g3,1,none⟩=some (.slice A1_1 l1_1.length c1_1)):=⟨fun l m o W K=>by rw[hBs.out]at K;exact⟨K.cell 0 rfl 0 rfl,K.cell 0 rfl 1 rfl,K.cell 1 rfl 0 rfl,K.cell 1 rfl 1 rfl⟩⟩
  refine kpstart (n:=9) (ds:=[]) (S:=fun W=>W.cell? ⟨g1,0,none⟩=some (.bool a0_0)∧W.cell? ⟨g1,1,none⟩=some (.slice A0_1 l0_1.length c0_1)∧W.cell? ⟨g3,0,none⟩=some (.bool a1_0)∧W.cell? ⟨g3,1,none⟩=some (.slice A1_1 l1_1.length c1_1)) (bm_ 9 0) (by kernel_rfl) rfl rfl K (HS.out [] _ _) (fun W14 K hH=>?_)
  refine with_tabW tribunalref02_Plus.tab2 tribunalref02_Plus.bits2 (fun HT_ HW_=>?_)
  refine pu_ 0 10 ?_ (bm_ 9 1) rfl rfl (any_of HT_.out (by kernel_rfl)) (fun _ _ _ h=>h) (by rfl) ?_ ?_ ?_ ?_
  rotate_left
  ·intro w'
   go_simp
   with_reducible rfl
  rotate_left
  ·simp only[Act.put,kss,i64_w,i32_w]
   rfl
  refine tk_ 1 11 ?_ (bm_ 9 3) rfl rfl (take_ofW HT_.out HW_.out (by kernel_rfl)) (fun _ _ _ h=>h) (by rfl) ?_ hH ?_ ?_ ?_
  rotate_left
  ·rintro w' ⟨s0,s1,s2,s3⟩
   go_simp
   with_reducible rfl
  rotate_left
  ·simp only[Act.put,kss,i64_w,i32_w]
   rfl
  refine pu_ 2 12 ?_ (bm_ 9 7) rfl rfl (any_of HT_.out (by kernel_rfl)) (fun _ _ _ h=>h) (by rfl) ?_ ?_ ?_ ?_
  rotate_left
  ·intro w'
   go_simp
   with_reducible rfl
  rotate_left
  ·simp only[Act.put,kss,i64_w,i32_w]
   rfl
  refine tk_ 3 13 ?_ (bm_ 9 15) rfl rfl (take_ofW HT_.out HW_.out (by kernel_rfl)) (fun _ _ _ h=>h) (by rfl) ?_ hH ?_ ?_ ?_
  rotate_left
  ·rintro w' ⟨s0,s1,s2,s3⟩
   go_simp
   with_reducible rfl
  rotate_left
  ·simp only[Act.put,kss,i64_w,i32_w]
   rfl
  refine pu_ 4 14 ?_ (bm_ 9 31) rfl rfl (any_of HT_.out (by kernel_rfl)) (fun _ _ _ h=>h) (by rfl) ?_ ?_ ?_ ?_
  rotate_left
  ·intro w'
   go_simp
   with_reducible rfl
  rotate_left
  ·simp only[Act.put,kss,i64_w,i32_w]
   rfl
  refine tk_ 5 15 ?_ (bm_ 9 63) rfl rfl (take_ofW HT_.out HW_.out (by kernel_rfl)) (fun _ _ _ h=>h) (by rfl) ?_ hH ?_ ?_ ?_
  rotate_left
  ·rintro w' ⟨s0,s1,s2,s3⟩
   go_simp
   with_reducible rfl
  rotate_left
  ·simp only[Act.put,kss,i64_w,i32_w]
   rfl
  refine one_ (i:=6) (N:=some 16) (bm_ 9 127) rfl rfl (one_of HT_.out (by kernel_rfl)) (by decide) (fun Kc hK=>?_)
  refine kgo Tryz.func115 #[.slice A0_1 l0_1.length c0_1,.slice A1_1 l1_1.length c1_1] (by rfl) rfl rfl ?_
  refine(tribunalref02_addD.calls _ _ _ l0_1 _ _ l1_1 x7 _ (K.C 0 (hv hVs rfl)) (K.le 0 (hv hVs rfl)) (K.C 1 (hv hVs rfl)) (K.le 1 (hv hVs rfl)) A8.out).mono ?_
  rintro e W' ⟨v12,rfl,ho15,hb⟩
  replace K:=K.addRI 0 0 hb ho15 (lb rfl)
  clear hb ho15
  refine⟨_,rfl,hK.out _ _ (HS.out _ _ _ _ K) fun hH=>?_⟩
  clear hK Kc
  refine norm_ (a':=?_) ?_ ?_
  rotate_left
  ·show Act.put _ (some 16) _=_
   simp only[Act.put,kss,i64_w,i32_w]
   rfl
  refine one_ (i:=7) (N:=some 17) (bm_ 9 255) rfl rfl (one_of HT_.out (by kernel_rfl)) (by decide) (fun Kc hK=>?_)
  obtain⟨P16,c17,e18⟩:=K.slice 2 (hv hVs rfl)
  subst e18
  refine kgo Tryz.func51 #[.bool a0_0,.slice P16 x7.length c17] (by rfl) rfl rfl ?_
  refine(tribunalref02_Make.calls _ a0_0 _ _ _ x7 z9 x10 _ (K.V 2 (hv hVs rfl)) A11.out).mono ?_
  rintro e W' ⟨v13,rfl,ho19,hb⟩
  replace K:=K.addI 1 (fun _=>False) hb ho19 (fun _ h=>h)
  clear hb ho19
  refine⟨_,rfl,hK.out _ _ (HS.out _ _ _ _ K) fun hH=>?_⟩
  clear hK Kc
  refine norm_ (a':=?_) ?_ ?_
  rotate_left
  ·show Act.put _ (some 17) _=_
   simp only[Act.put,kss,i64_w,i32_w]
   rfl
  obtain⟨P20,c21,e22⟩:=K.slice 3 (hv hVs rfl)
  subst e22
  rw[hBs.out,hVs.out,hOs.out]at K
  simp only[kls,klv]at K
  clear hBs hVs hOs HS hH
  refine ko2 (i:=8) (bm_ 9 511) 2 (.bool z9) (.slice P20 x10.length c21) K rfl rfl rfl (one_of HT_.out (by kernel_rfl)) (by decide) (by rfl) (fun W K=>⟨K.cell 0 rfl 0 rfl,K.cell 0 rfl 1 rfl,K.cell 1 rfl 0 rfl,K.cell 1 rfl 1 rfl⟩) ?_
  clear K
  intro W23 K
  simp only[kls,klv]at K
  refine done_ (done_of HT_.out (by kernel_rfl)) ?_
  clear HT_ HW_
  simp only[Option.some.injEq,Prod.mk.injEq]at h
  obtain⟨rfl,rfl⟩:=h
  go_wp2
  refine bodyPost_ret (results_single rfl (.cell g5 85 #[.bool z9,.slice P20 x10.length c21] (0,0) _ rfl (K.u.heap 2 rfl) Tryz.underlying85 rfl (by kernel_rfl) .nil)) rfl ?_
  exact⟨_,rfl,K.u.hand 3 rfl (fun _ h=>h.elim (fun h=>h.elim) id),K.u.below⟩
 rw[if_neg c_0]at h
 replace c_0:=Bool.eq_false_iff.mpr c_0
 have c_0b:decide (a0_0=a1_0)=false:=by simpa using c_0
 replace h:=bindA h
 obtain⟨n7,A8,h⟩:=h
 by_cases c_1:n7≥0
 ·rw[if_pos c_1]at h
  have c_1b:decide (n7≥0)=true:=decide_eq_true c_1
  go_enter Tryz.func131,Tryz.ntmps131
  go_wp2_with (first|(refine gd 2 rfl ?_;refine kbk 2 #[.bool a0_0,.slice A0_1 l0_1.length c0_1] 85 K.u ?_;clear K;intro g1 W2 K)|(refine gd 3 rfl ?_;refine kbk 3 #[.bool a1_0,.slice A1_1 l1_1.length c1_1] 85 K.u ?_;clear K;intro g3 W4 K)|(refine gd 4 rfl ?_;refine kbk 4 #[.bool false,.slice none 0 0] 85 K.u ?_;clear K;intro g5 W6 K;obtain⟨ua0,ub0⟩:=K.cell2 0 rfl;obtain⟨ua1,ub1⟩:=K.cell2 1 rfl)|(refine gd 22 rfl ?_;clear ua0 ub0 ua1 ub1;refine kgl (some 22) rfl rfl Tryz.func190 #[.slice A0_1 l0_1.length c0_1,.slice A1_1 l1_1.length c1_1] rfl ?_;refine(tribunalref02_cmpD.calls _ _ _ l0_1 _ _ l1_1 n7 _ (K.C 0 rfl) (K.le 0 rfl) (K.C 1 rfl) (K.le 1 rfl) A8.out).mono ?_;rintro e W9 ⟨rfl,hb⟩;refine⟨_,rfl,?_⟩;replace K:=K.u.up hb.below;clear hb))
  replace h:=bindA h
  obtain⟨x10,A11,h⟩:=h
  replace h:=bindA h
  obtain⟨⟨z12,x13⟩,A14,h⟩:=h
  dsimp only at h
  obtain⟨Bs,Vs,Os,hBs,hVs,hOs,K⟩:=K.abs
  have HS:Aside0 (∀l m o W,Kp w (Bs++l) m o W→W.cell? ⟨g1,0,none⟩=some (.bool a0_0)∧W.cell? ⟨g1,1,none⟩=some (.slice A0_1 l0_1.length c0_1)∧W.cell? ⟨g3,0,none⟩=some (.bool a1_0)∧W.cell? ⟨g3,1,none⟩=some (.slice A1_1 l1_1.length c1_1)):=⟨fun l m o W K=>by rw[hBs.out]at K;exact⟨K.cell 0 rfl 0 rfl,K.cell 0 rfl 1 rfl,K.cell 1 rfl 0 rfl,K.cell 1 rfl 1 rfl⟩⟩
  refine kpstart (n:=9) (ds:=[]) (S:=fun W=>W.cell? ⟨g1,0,none⟩=some (.bool a0_0)∧W.cell? ⟨g1,1,none⟩=some (.slice A0_1 l0_1.length c0_1)∧W.cell? ⟨g3,0,none⟩=some (.bool a1_0)∧W.cell? ⟨g3,1,none⟩=some (.slice A1_1 l1_1.length c1_1)) (bm_ 9 0) (by kernel_rfl) rfl rfl K (HS.out [] _ _) (fun W17 K hH=>?_)
  refine with_tabW tribunalref02_Plus.tab4 tribunalref02_Plus.bits4 (fun HT_ HW_=>?_)
  refine pu_ 0 24 ?_ (bm_ 9 1) rfl rfl (any_of HT_.out (by kernel_rfl)) (fun _ _ _ h=>h) (by rfl) ?_ ?_ ?_ ?_
  rotate_left
  ·intro w'
   go_simp
   with_reducible rfl
  rotate_left
  ·simp only[Act.put,kss,i64_w,i32_w]
   rfl
  refine tk_ 1 25 ?_ (bm_ 9 3) rfl rfl (take_ofW HT_.out HW_.out (by kernel_rfl)) (fun _ _ _ h=>h) (by rfl) ?_ hH ?_ ?_ ?_
  rotate_left
  ·rintro w' ⟨s0,s1,s2,s3⟩
   go_simp
   with_reducible rfl
  rotate_left
  ·simp only[Act.put,kss,i64_w,i32_w]
   rfl
  refine pu_ 2 26 ?_ (bm_ 9 7) rfl rfl (any_of HT_.out (by kernel_rfl)) (fun _ _ _ h=>h) (by rfl) ?_ ?_ ?_ ?_
  rotate_left
  ·intro w'
   go_simp
   with_reducible rfl
  rotate_left
  ·simp only[Act.put,kss,i64_w,i32_w]
   rfl
  refine tk_ 3 27 ?_ (bm_ 9 15) rfl rfl (take_ofW HT_.out HW_.out (by kernel_rfl)) (fun _ _ _ h=>h) (by rfl) ?_ hH ?_ ?_ ?_
  rotate_left
  ·rintro w' ⟨s0,s1,s2,s3⟩
   go_simp
   with_reducible rfl
  rotate_left
  ·simp only[Act.put,kss,i64_w,i32_w]
   rfl
  refine pu_ 4 28 ?_ (bm_ 9 31) rfl rfl (any_of HT_.out (by kernel_rfl)) (fun _ _ _ h=>h) (by rfl) ?_ ?_ ?_ ?_
  rotate_left
  ·intro w'
   go_simp
   with_reducible rfl
  rotate_left
  ·simp only[Act.put,kss,i64_w,i32_w]
   rfl
  refine tk_ 5 29 ?_ (bm_ 9 63) rfl rfl (take_ofW HT_.out HW_.out (by kernel_rfl)) (fun _ _ _ h=>h) (by rfl) ?_ hH ?_ ?_ ?_
  rotate_left
  ·rintro w' ⟨s0,s1,s2,s3⟩
   go_simp
   with_reducible rfl
  rotate_left
  ·simp only[Act.put,kss,i64_w,i32_w]
   rfl
  refine one_ (i:=6) (N:=some 30) (bm_ 9 127) rfl rfl (one_of HT_.out (by kernel_rfl)) (by decide) (fun Kc hK=>?_)
  refine kgo Tryz.func191 #[.slice A0_1 l0_1.length c0_1,.slice A1_1 l1_1.length c1_1] (by rfl) rfl rfl ?_
  refine(tribunalref02_subD.calls _ _ _ l0_1 _ _ l1_1 x10 _ (K.C 0 (hv hVs rfl)) (K.le 0 (hv hVs rfl)) (K.C 1 (hv hVs rfl)) (K.le 1 (hv hVs rfl)) A11.out).mono ?_
  rintro e W' ⟨v15,rfl,ho18,hb⟩
  replace K:=K.addFI 0 (fun _=>False) hb ho18
  clear hb ho18
  refine⟨_,rfl,hK.out _ _ (HS.out _ _ _ _ K) fun hH=>?_⟩
  clear hK Kc
  refine norm_ (a':=?_) ?_ ?_
  rotate_left
  ·show Act.put _ (some 30) _=_
   simp only[Act.put,kss,i64_w,i32_w]
   rfl
  refine one_ (i:=7) (N:=some 31) (bm_ 9 255) rfl rfl (one_of HT_.out (by kernel_rfl)) (by decide) (fun Kc hK=>?_)
  obtain⟨P19,c20,e21⟩:=K.slice 2 (hv hVs rfl)
  subst e21
  refine kgo Tryz.func51 #[.bool a0_0,.slice P19 x10.length c20] (by rfl) rfl rfl ?_
  refine(tribunalref02_Make.calls _ a0_0 _ _ _ x10 z12 x13 _ (K.V 2 (hv hVs rfl)) A14.out).mono ?_
  rintro e W' ⟨v16,rfl,ho22,hb⟩
  replace K:=K.addI 1 (fun _=>False) hb ho22 (fun _ h=>h)
  clear hb ho22
  refine⟨_,rfl,hK.out _ _ (HS.out _ _ _ _ K) fun hH=>?_⟩
  clear hK Kc
  refine norm_ (a':=?_) ?_ ?_
  rotate_left
  ·show Act.put _ (some 31) _=_
   simp only[Act.put,kss,i64_w,i32_w]
   rfl
  obtain⟨P23,c24,e25⟩:=K.slice 3 (hv hVs rfl)
  subst e25
  rw[hBs.out,hVs.out,hOs.out]at K
  simp only[kls,klv]at K
  clear hBs hVs hOs HS hH
  refine ko2 (i:=8) (bm_ 9 511) 2 (.bool z12) (.slice P23 x13.length c24) K rfl rfl rfl (one_of HT_.out (by kernel_rfl)) (by decide) (by rfl) (fun W K=>⟨K.cell 0 rfl 0 rfl,K.cell 0 rfl 1 rfl,K.cell 1 rfl 0 rfl,K.cell 1 rfl 1 rfl⟩) ?_
  clear K
  intro W26 K
  simp only[kls,klv]at K
  refine done_ (done_of HT_.out (by kernel_rfl)) ?_
  clear HT_ HW_
  simp only[Option.some.injEq,Prod.mk.injEq]at h
  obtain⟨rfl,rfl⟩:=h
  go_wp2
  refine bodyPost_ret (results_single rfl (.cell g5 85 #[.bool z12,.slice P23 x13.length c24] (0,0) _ rfl (K.u.heap 2 rfl) Tryz.underlying85 rfl (by kernel_rfl) .nil)) rfl ?_
  exact⟨_,rfl,K.u.hand 3 rfl (fun _ h=>h.elim (fun h=>h.elim) id),K.u.below⟩
 rw[if_neg c_1]at h
 have c_1b:decide (n7≥0)=false:=decide_eq_false c_1
 go_enter Tryz.func131,Tryz.ntmps131
 go_wp2_with (first|(refine gd 2 rfl ?_;refine kbk 2 #[.bool a0_0,.slice A0_1 l0_1.length c0_1] 85 K.u ?_;clear K;intro g1 W2 K)|(refine gd 3 rfl ?_;refine kbk 3 #[.bool a1_0,.slice A1_1 l1_1.length c1_1] 85 K.u ?_;clear K;intro g3 W4 K)|(refine gd 4 rfl ?_;refine kbk 4 #[.bool false,.slice none 0 0] 85 K.u ?_;clear K;intro g5 W6 K;obtain⟨ua0,ub0⟩:=K.cell2 0 rfl;obtain⟨ua1,ub1⟩:=K.cell2 1 rfl)|(refine gd 22 rfl ?_;clear ua0 ub0 ua1 ub1;refine kgl (some 22) rfl rfl Tryz.func190 #[.slice A0_1 l0_1.length c0_1,.slice A1_1 l1_1.length c1_1] rfl ?_;refine(tribunalref02_cmpD.calls _ _ _ l0_1 _ _ l1_1 n7 _ (K.C 0 rfl) (K.le 0 rfl) (K.C 1 rfl) (K.le 1 rfl) A8.out).mono ?_;rintro e W9 ⟨rfl,hb⟩;refine⟨_,rfl,?_⟩;replace K:=K.u.up hb.below;clear hb))
 replace h:=bindA h
 obtain⟨x10,A11,h⟩:=h
 replace h:=bindA h
 obtain⟨⟨z12,x13⟩,A14,h⟩:=h
 dsimp only at h
 obtain⟨Bs,Vs,Os,hBs,hVs,hOs,K⟩:=K.abs
 have HS:Aside0 (∀l m o W,Kp w (Bs++l) m o W→W.cell? ⟨g3,0,none⟩=some (.bool a1_0)∧W.cell? ⟨g3,1,none⟩=some (.slice A1_1 l1_1.length c1_1)∧W.cell? ⟨g1,0,none⟩=some (.bool a0_0)∧W.cell? ⟨g1,1,none⟩=some (.slice A0_1 l0_1.length c0_1)):=⟨fun l m o W K=>by rw[hBs.out]at K;exact⟨K.cell 1 rfl 0 rfl,K.cell 1 rfl 1 rfl,K.cell 0 rfl 0 rfl,K.cell 0 rfl 1 rfl⟩⟩
 refine kpstart (n:=9) (ds:=[]) (S:=fun W=>W.cell? ⟨g3,0,none⟩=some (.bool a1_0)∧W.cell? ⟨g3,1,none⟩=some (.slice A1_1 l1_1.length c1_1)∧W.cell? ⟨g1,0,none⟩=some (.bool a0_0)∧W.cell? ⟨g1,1,none⟩=some (.slice A0_1 l0_1.length c0_1)) (bm_ 9 0) (by kernel_rfl) rfl rfl K (HS.out [] _ _) (fun W17 K hH=>?_)
 refine with_tabW tribunalref02_Plus.tab5 tribunalref02_Plus.bits5 (fun HT_ HW_=>?_)
 refine pu_ 0 32 ?_ (bm_ 9 1) rfl rfl (any_of HT_.out (by kernel_rfl)) (fun _ _ _ h=>h) (by rfl) ?_ ?_ ?_ ?_
 rotate_left
 ·intro w'
  go_simp
  with_reducible rfl
 rotate_left
 ·simp only[Act.put,kss,i64_w,i32_w]
  rfl
 refine tk_ 1 33 ?_ (bm_ 9 3) rfl rfl (take_ofW HT_.out HW_.out (by kernel_rfl)) (fun _ _ _ h=>h) (by rfl) ?_ hH ?_ ?_ ?_
 rotate_left
 ·rintro w' ⟨s0,s1,s2,s3⟩
  go_simp
  with_reducible rfl
 rotate_left
 ·simp only[Act.put,kss,i64_w,i32_w]
  rfl
 refine pu_ 2 34 ?_ (bm_ 9 7) rfl rfl (any_of HT_.out (by kernel_rfl)) (fun _ _ _ h=>h) (by rfl) ?_ ?_ ?_ ?_
 rotate_left
 ·intro w'
  go_simp
  with_reducible rfl
 rotate_left
 ·simp only[Act.put,kss,i64_w,i32_w]
  rfl
 refine tk_ 3 35 ?_ (bm_ 9 15) rfl rfl (take_ofW HT_.out HW_.out (by kernel_rfl)) (fun _ _ _ h=>h) (by rfl) ?_ hH ?_ ?_ ?_
 rotate_left
 ·rintro w' ⟨s0,s1,s2,s3⟩
  go_simp
  with_reducible rfl
 rotate_left
 ·simp only[Act.put,kss,i64_w,i32_w]
  rfl
 refine pu_ 4 36 ?_ (bm_ 9 31) rfl rfl (any_of HT_.out (by kernel_rfl)) (fun _ _ _ h=>h) (by rfl) ?_ ?_ ?_ ?_
 rotate_left
 ·intro w'
  go_simp
  with_reducible rfl
 rotate_left
 ·simp only[Act.put,kss,i64_w,i32_w]
  rfl
 refine tk_ 5 37 ?_ (bm_ 9 63) rfl rfl (take_ofW HT_.out HW_.out (by kernel_rfl)) (fun _ _ _ h=>h) (by rfl) ?_ hH ?_ ?_ ?_
 rotate_left
 ·rintro w' ⟨s0,s1,s2,s3⟩
  go_simp
  with_reducible rfl
 rotate_left
 ·simp only[Act.put,kss,i64_w,i32_w]
  rfl
 refine one_ (i:=6) (N:=some 38) (bm_ 9 127) rfl rfl (one_of HT_.out (by kernel_rfl)) (by decide) (fun Kc hK=>?_)
 refine kgo Tryz.func191 #[.slice A1_1 l1_1.length c1_1,.slice A0_1 l0_1.length c0_1] (by rfl) rfl rfl ?_
 refine(tribunalref02_subD.calls _ _ _ l1_1 _ _ l0_1 x10 _ (K.C 1 (hv hVs rfl)) (K.le 1 (hv hVs rfl)) (K.C 0 (hv hVs rfl)) (K.le 0 (hv hVs rfl)) A11.out).mono ?_
 rintro e W' ⟨v15,rfl,ho18,hb⟩
 replace K:=K.addFI 0 (fun _=>False) hb ho18
 clear hb ho18
 refine⟨_,rfl,hK.out _ _ (HS.out _ _ _ _ K) fun hH=>?_⟩
 clear hK Kc
 refine norm_ (a':=?_) ?_ ?_
 rotate_left
 ·show Act.put _ (some 38) _=_
  simp only[Act.put,kss,i64_w,i32_w]
  rfl
 refine one_ (i:=7) (N:=some 39) (bm_ 9 255) rfl rfl (one_of HT_.out (by kernel_rfl)) (by decide) (fun Kc hK=>?_)
 obtain⟨P19,c20,e21⟩:=K.slice 2 (hv hVs rfl)
 subst e21
 refine kgo Tryz.func51 #[.bool a1_0,.slice P19 x10.length c20] (by rfl) rfl rfl ?_
 refine(tribunalref02_Make.calls _ a1_0 _ _ _ x10 z12 x13 _ (K.V 2 (hv hVs rfl)) A14.out).mono ?_
 rintro e W' ⟨v16,rfl,ho22,hb⟩
 replace K:=K.addI 1 (fun _=>False) hb ho22 (fun _ h=>h)
 clear hb ho22
 refine⟨_,rfl,hK.out _ _ (HS.out _ _ _ _ K) fun hH=>?_⟩
 clear hK Kc
 refine norm_ (a':=?_) ?_ ?_
 rotate_left
 ·show Act.put _ (some 39) _=_
  simp only[Act.put,kss,i64_w,i32_w]
  rfl
 obtain⟨P23,c24,e25⟩:=K.slice 3 (hv hVs rfl)
 subst e25
 rw[hBs.out,hVs.out,hOs.out]at K
 simp only[kls,klv]at K
 clear hBs hVs hOs HS hH
 refine ko2 (i:=8) (bm_ 9 511) 2 (.bool z12) (.slice P23 x13.length c24) K rfl rfl rfl (one_of HT_.out (by kernel_rfl)) (by decide) (by rfl) (fun W K=>⟨K.cell 1 rfl 0 rfl,K.cell 1 rfl 1 rfl,K.cell 0 rfl 0 rfl,K.cell 0 rfl 1 rfl⟩) ?_
 clear K
 intro W26 K
 simp only[kls,klv]at K
 refine done_ (done_of HT_.out (by kernel_rfl)) ?_
 clear HT_ HW_
 simp only[Option.some.injEq,Prod.mk.injEq]at h
 obtain⟨rfl,rfl⟩:=h
 go_wp2
 refine bodyPost_ret (results_single rfl (.cell g5 85 #[.bool z12,.slice P23 x13.length c24] (0,0) _ rfl (K.u.heap 2 rfl) Tryz.underlying85 rfl (by kernel_rfl) .nil)) rfl ?_
 exact⟨_,rfl,K.u.hand 3 rfl (fun _ h=>h.elim (fun h=>h.elim) id),K.u.below⟩
end Go.Proofs.YtikencoikigllaaGreatDoor.PRy
namespace Go.Proofs.YtikencoikigllaaGreatDoor.PRy
open Go.RowKit Go.Proofs.YtikencoikigllaaGreatDoorW.PrintWords Go.Proofs.YtikencoikigllaaGreatDoorW.PrintLast Go.Proofs.YtikencoikigllaaGreatDoorW.PrintMore
open Go.Proofs.YtikencoikigllaaGreatDoor.Mine
attribute [local go_sem] max2_int min2_int max_two min_two max_three min_three max_four min_four
mutual
def tribunalref02_Rounded.j0:Nat→Bool→Bool→Bool→Bool→List Int→Option (Bool×List Int)
 | 0,_,_,_,_,_=>none
 | k+1,x2,x9,x30,x601000,x601001=>if x30=true then((tribunalref02_Small1.f k 1).bind fun bt602=>((tribunalref02_Plus.f k x601000 x601001 bt602.1 bt602.2).bind fun bt606=>(some (bt606.1,bt606.2)))) else(if x2=true then(tribunalref02_Rounded.j1 k false x601000 x601001) else(tribunalref02_Rounded.j1 k x9 x601000 x601001))
def tribunalref02_Rounded.j1:Nat→Bool→Bool→List Int→Option (Bool×List Int)
 | 0,_,_,_=>none
 | k+1,x38,x601000,x601001=>if x38=true then((tribunalref02_Small1.f k (-1)).bind fun bt610=>((tribunalref02_Plus.f k x601000 x601001 bt610.1 bt610.2).bind fun bt614=>(some (bt614.1,bt614.2)))) else(some (x601000,x601001))
end
def tribunalref02_Rounded.f (k:Nat) (a0_0:Bool) (l0_1:List Int) (a1_0:Bool) (l1_1:List Int) (a2:Bool):Option (Bool×List Int):=(tribunalref02_Cut.f k a0_0 l0_1 a1_0 l1_1).bind fun bt592=>(if(bt592.2.2.2.length:Int)=0 then(some (bt592.1,bt592.2.1)) else(if a2=true then(tribunalref02_Rounded.j0 k a2 (a0_0 != a1_0) (a0_0==a1_0) bt592.1 bt592.2.1) else(tribunalref02_Rounded.j0 k a2 (a0_0 != a1_0) false bt592.1 bt592.2.1)))
theorem tribunalref02_Rounded.calls (k:Nat) (a0_0:Bool) (A0_1:Option Addr) (c0_1:Nat) (l0_1:List Int) (a1_0:Bool) (A1_1:Option Addr) (c1_1:Nat) (l1_1:List Int) (a2:Bool) (r1:Bool) (r2:List Int) (w:World) (hr0_1:Kd.C (Kd.int .u16) w A0_1 l0_1.length l0_1) (hc0_1:l0_1.length≤c0_1) (hr1_1:Kd.C (Kd.int .u16) w A1_1 l1_1.length l1_1) (hc1_1:l1_1.length≤c1_1) (h:tribunalref02_Rounded.f k a0_0 l0_1 a1_0 l1_1 a2=some (r1,r2)) :
  Calls Tryz.prog 66 #[.agg #[.bool a0_0,.slice A0_1 l0_1.length c0_1],.agg #[.bool a1_0,.slice A1_1 l1_1.length c1_1],.bool a2] w fun e w'=>∃v1_:Value,e=.returned (.agg #[.bool r1,v1_])∧Kd.V (Kd.int .u16) 115 w' w.heap.size (fun k_=>(w.heap.size≤k_)) v1_ r2∧Below w.heap.size w w':=by
 have hu85:=Tryz.underlying85
 have K:=Kp.refl w
 replace K:=K.parV (Kd.V_mono (ok':=fun k=>k<w.heap.size) (Kd.V_mk (e:=115) (base:=0) hc0_1 (Kd.C_F (Kd.heap_int .u16) hr0_1)) (fun _ h=>h))
 clear hr0_1 hc0_1
 replace K:=K.parV (Kd.V_mono (ok':=fun k=>k<w.heap.size) (Kd.V_mk (e:=115) (base:=0) hc1_1 (Kd.C_F (Kd.heap_int .u16) hr1_1)) (fun _ h=>h))
 clear hr1_1 hc1_1
 try simp only[klv]at K
 rw[tribunalref02_Rounded.f]at h
 replace h:=bindA h
 obtain⟨⟨z7,x8,z9,x10⟩,A11,h⟩:=h
 dsimp only at h
 by_cases c_0:(x10.length:Int)=0
 ·rw[if_pos c_0]at h
  have c_0b0:((x10.length:Int)==0)=true:=beq_iff_eq.mpr c_0
  have c_0b1:((x10.length:Int) != 0)=false:=bne_eq_false_iff_eq.mpr c_0
  have c_0b2:x10=[]:=List.length_eq_zero_iff.1 (by omega)
  simp only[Option.some.injEq,Prod.mk.injEq]at h
  obtain⟨rfl,rfl⟩:=h
  go_enter Tryz.func66,Tryz.ntmps66
  go_wp2_with (first|(refine gd 3 rfl ?_;refine kbk 3 #[.bool a0_0,.slice A0_1 l0_1.length c0_1] 85 K.u ?_;clear K;intro g1 W2 K)|(refine gd 4 rfl ?_;refine kbk 4 #[.bool a1_0,.slice A1_1 l1_1.length c1_1] 85 K.u ?_;clear K;intro g3 W4 K)|(refine gd 6 rfl ?_;refine kbk 6 #[.bool false,.slice none 0 0] 85 K.u ?_;clear K;intro g5 W6 K;obtain⟨ua0,ub0⟩:=K.cell2 0 rfl;obtain⟨ua1,ub1⟩:=K.cell2 1 rfl)|(refine gd 13 rfl ?_;clear ua0 ub0 ua1 ub1;refine kgl (some 13) rfl rfl Tryz.func130 #[.agg #[.bool a0_0,.slice A0_1 l0_1.length c0_1],.agg #[.bool a1_0,.slice A1_1 l1_1.length c1_1]] rfl ?_;refine(tribunalref02_Cut.calls _ a0_0 _ _ l0_1 a1_0 _ _ l1_1 z7 x8 z9 x10 _ (K.C 0 rfl) (K.le 0 rfl) (K.C 1 rfl) (K.le 1 rfl) A11.out).mono ?_;rintro e W16 ⟨v12,v13,rfl,ho14,ho15,hb⟩;refine⟨_,rfl,?_⟩;have K1:=K.u.addF (fun _=>False) hb ho14;replace K:=K.u.moreF (fun _=>False) K1 ho15;clear K1;clear hb ho14 ho15;obtain⟨P17,c18,e19⟩:=K.slice 2 rfl;subst e19;obtain⟨P20,c21,e22⟩:=K.slice 3 rfl;subst e22)|(refine gd 7 rfl ?_;refine kbk 7 #[.bool false,.slice none 0 0] 85 K.u ?_;clear K;intro g23 W24 K)|(refine gd 8 rfl ?_;refine kbk 8 #[.bool false,.slice none 0 0] 85 K.u ?_;clear K;intro g25 W26 K)|(refine gs 85 7 14 rfl ?_;refine ks2 3 (.bool z7) (.slice P17 x8.length c18) K.u rfl ?_;clear K;intro W27 K;simp only[kls,klv]at K)|(refine gs 85 8 15 rfl ?_;refine ks2 4 (.bool z9) (.slice P20 x10.length c21) K.u rfl ?_;clear K;intro W29 K;simp only[kls,klv]at K;obtain⟨ua4,ub4⟩:=K.cell2 4 rfl;obtain⟨ua3,ub3⟩:=K.cell2 3 rfl)|(refine gs 85 6 20 rfl ?_;clear ua4 ub4 ua3 ub3;refine ks2 2 (.bool z7) (.slice P17 x8.length c18) K.u rfl ?_;clear K;intro W31 K;simp only[kls,klv]at K))
  refine bodyPost_ret (results_single rfl (.cell g5 85 #[.bool z7,.slice P17 x8.length c18] (0,0) _ rfl (K.u.heap 2 rfl) Tryz.underlying85 rfl (by kernel_rfl) .nil)) rfl ?_
  exact⟨_,rfl,K.u.hand 2 rfl (fun _ h=>h.elim (fun h=>h.elim) id),K.u.below⟩
 rw[if_neg c_0]at h
 have c_0b0:((x10.length:Int)==0)=false:=beq_eq_false_iff_ne.mpr c_0
 have c_0b1:((x10.length:Int) != 0)=true:=bne_iff_ne.mpr c_0
 have c_0b2:¬(x10=[]):=fun h_=>c_0 (by rw[h_];rfl)
 by_cases c_1:a2=true
 ·subst c_1
  rw[if_pos rfl]at h
  obtain⟨k,rfl⟩:∃j,k=j+1:=by
   cases k with
   | zero=>simp[tribunalref02_Rounded.j0]at h
   | succ k=>exact⟨k,rfl⟩
  rw[tribunalref02_Rounded.j0]at h
  by_cases c_2:(a0_0==a1_0)=true
  ·rw[if_pos c_2]at h
   have c_2b:decide (a0_0=a1_0)=true:=by simpa using c_2
   go_enter Tryz.func66,Tryz.ntmps66
   go_wp2_with (first|(refine gd 3 rfl ?_;refine kbk 3 #[.bool a0_0,.slice A0_1 l0_1.length c0_1] 85 K.u ?_;clear K;intro g1 W2 K)|(refine gd 4 rfl ?_;refine kbk 4 #[.bool a1_0,.slice A1_1 l1_1.length c1_1] 85 K.u ?_;clear K;intro g3 W4 K)|(refine gd 6 rfl ?_;refine kbk 6 #[.bool false,.slice none 0 0] 85 K.u ?_;clear K;intro g5 W6 K;obtain⟨ua0,ub0⟩:=K.cell2 0 rfl;obtain⟨ua1,ub1⟩:=K.cell2 1 rfl)|(refine gd 13 rfl ?_;clear ua0 ub0 ua1 ub1;refine kgl (some 13) rfl rfl Tryz.func130 #[.agg #[.bool a0_0,.slice A0_1 l0_1.length c0_1],.agg #[.bool a1_0,.slice A1_1 l1_1.length c1_1]] rfl ?_;refine(tribunalref02_Cut.calls _ a0_0 _ _ l0_1 a1_0 _ _ l1_1 z7 x8 z9 x10 _ (K.C 0 rfl) (K.le 0 rfl) (K.C 1 rfl) (K.le 1 rfl) A11.out).mono ?_;rintro e W16 ⟨v12,v13,rfl,ho14,ho15,hb⟩;refine⟨_,rfl,?_⟩;have K1:=K.u.addF (fun _=>False) hb ho14;replace K:=K.u.moreF (fun _=>False) K1 ho15;clear K1;clear hb ho14 ho15;obtain⟨P17,c18,e19⟩:=K.slice 2 rfl;subst e19;obtain⟨P20,c21,e22⟩:=K.slice 3 rfl;subst e22)|(refine gd 7 rfl ?_;refine kbk 7 #[.bool false,.slice none 0 0] 85 K.u ?_;clear K;intro g23 W24 K)|(refine gd 8 rfl ?_;refine kbk 8 #[.bool false,.slice none 0 0] 85 K.u ?_;clear K;intro g25 W26 K)|(refine gs 85 7 14 rfl ?_;refine ks2 3 (.bool z7) (.slice P17 x8.length c18) K.u rfl ?_;clear K;intro W27 K;simp only[kls,klv]at K)|(refine gs 85 8 15 rfl ?_;refine ks2 4 (.bool z9) (.slice P20 x10.length c21) K.u rfl ?_;clear K;intro W29 K;simp only[kls,klv]at K;obtain⟨ua4,ub4⟩:=K.cell2 4 rfl;obtain⟨ua0,ub0⟩:=K.cell2 0 rfl;obtain⟨ua1,ub1⟩:=K.cell2 1 rfl))
   clear ua4 ub4 ua0 ub0 ua1 ub1
   replace h:=bindA h
   obtain⟨⟨z31,x32⟩,A33,h⟩:=h
   dsimp only at h
   replace h:=bindA h
   obtain⟨⟨z34,x35⟩,A36,h⟩:=h
   dsimp only at h
   obtain⟨Bs,Vs,Os,hBs,hVs,hOs,K⟩:=K.abs
   have HS:Aside0 (∀l m o W,Kp w (Bs++l) m o W→W.cell? ⟨g23,0,none⟩=some (.bool z7)∧W.cell? ⟨g23,1,none⟩=some (.slice P17 x8.length c18)):=⟨fun l m o W K=>by rw[hBs.out]at K;exact⟨K.cell 3 rfl 0 rfl,K.cell 3 rfl 1 rfl⟩⟩
   refine kpstart (n:=4) (ds:=[]) (S:=fun W=>W.cell? ⟨g23,0,none⟩=some (.bool z7)∧W.cell? ⟨g23,1,none⟩=some (.slice P17 x8.length c18)) (bm_ 4 0) (by kernel_rfl) rfl rfl K (HS.out [] _ _) (fun W39 K hH=>?_)
   refine tk_ 0 31 ?_ (bm_ 4 1) rfl rfl (by kernel_rfl) (fun _ _ _ h=>h) (by rfl) ?_ hH ?_ ?_ ?_
   rotate_left
   ·rintro w' ⟨s0,s1⟩
    go_simp
    with_reducible rfl
   rotate_left
   ·simp only[Act.put,kss,i64_w,i32_w]
    rfl
   refine one_ (i:=1) (N:=some 32) (bm_ 4 3) rfl rfl (by kernel_rfl) (by decide) (fun Kc hK=>?_)
   refine kgo Tryz.func117 #[.int .i64 1] (by rfl) rfl rfl ?_
   refine(tribunalref02_Small1.calls _ 1 z31 x32 _ A33.out).mono ?_
   rintro e W' ⟨v37,rfl,ho40,hb⟩
   replace K:=K.addFI 0 (fun _=>False) hb ho40
   clear hb ho40
   refine⟨_,rfl,hK.out _ _ (HS.out _ _ _ _ K) fun hH=>?_⟩
   clear hK Kc
   refine norm_ (a':=?_) ?_ ?_
   rotate_left
   ·show Act.put _ (some 32) _=_
    simp only[Act.put,kss,i64_w,i32_w]
    rfl
   refine one_ (i:=2) (N:=some 33) (bm_ 4 7) rfl rfl (by kernel_rfl) (by decide) (fun Kc hK=>?_)
   obtain⟨P41,c42,e43⟩:=K.slice 4 (hv hVs rfl)
   subst e43
   refine kgo Tryz.func131 #[.agg #[.bool z7,.slice P17 x8.length c18],.agg #[.bool z31,.slice P41 x32.length c42]] (by rfl) rfl rfl ?_
   refine(tribunalref02_Plus.calls _ z7 _ _ x8 z31 _ _ x32 z34 x35 _ (K.C 2 (hv hVs rfl)) (K.le 2 (hv hVs rfl)) (K.C 4 (hv hVs rfl)) (K.le 4 (hv hVs rfl)) A36.out).mono ?_
   rintro e W' ⟨v38,rfl,ho44,hb⟩
   replace K:=K.addFI 1 (fun _=>False) hb ho44
   clear hb ho44
   refine⟨_,rfl,hK.out _ _ (HS.out _ _ _ _ K) fun hH=>?_⟩
   clear hK Kc
   refine norm_ (a':=?_) ?_ ?_
   rotate_left
   ·show Act.put _ (some 33) _=_
    simp only[Act.put,kss,i64_w,i32_w]
    rfl
   obtain⟨P45,c46,e47⟩:=K.slice 5 (hv hVs rfl)
   subst e47
   rw[hBs.out,hVs.out,hOs.out]at K
   simp only[kls,klv]at K
   clear hBs hVs hOs HS hH
   refine ko2 (i:=3) (bm_ 4 15) 2 (.bool z34) (.slice P45 x35.length c46) K rfl rfl rfl (by kernel_rfl) (by decide) (by rfl) (fun W K=>⟨K.cell 3 rfl 0 rfl,K.cell 3 rfl 1 rfl⟩) ?_
   clear K
   intro W48 K
   simp only[kls,klv]at K
   refine done_ (by kernel_rfl) ?_
   simp only[Option.some.injEq,Prod.mk.injEq]at h
   obtain⟨rfl,rfl⟩:=h
   go_wp2
   refine bodyPost_ret (results_single rfl (.cell g5 85 #[.bool z34,.slice P45 x35.length c46] (0,0) _ rfl (K.u.heap 2 rfl) Tryz.underlying85 rfl (by kernel_rfl) .nil)) rfl ?_
   exact⟨_,rfl,K.u.hand 5 rfl (fun _ h=>h.elim (fun h=>h.elim) id),K.u.below⟩
  rw[if_neg c_2]at h
  replace c_2:=Bool.eq_false_iff.mpr c_2
  have c_2b:decide (a0_0=a1_0)=false:=by simpa using c_2
  rw[if_pos rfl]at h
  obtain⟨k,rfl⟩:∃j,k=j+1:=by
   cases k with
   | zero=>simp[tribunalref02_Rounded.j1]at h
   | succ k=>exact⟨k,rfl⟩
  rw[tribunalref02_Rounded.j1]at h
  rw[if_neg (by decide)]at h
  simp only[Option.some.injEq,Prod.mk.injEq]at h
  obtain⟨rfl,rfl⟩:=h
  go_enter Tryz.func66,Tryz.ntmps66
  go_wp2_with (first|(refine gd 3 rfl ?_;refine kbk 3 #[.bool a0_0,.slice A0_1 l0_1.length c0_1] 85 K.u ?_;clear K;intro g1 W2 K)|(refine gd 4 rfl ?_;refine kbk 4 #[.bool a1_0,.slice A1_1 l1_1.length c1_1] 85 K.u ?_;clear K;intro g3 W4 K)|(refine gd 6 rfl ?_;refine kbk 6 #[.bool false,.slice none 0 0] 85 K.u ?_;clear K;intro g5 W6 K;obtain⟨ua0,ub0⟩:=K.cell2 0 rfl;obtain⟨ua1,ub1⟩:=K.cell2 1 rfl)|(refine gd 13 rfl ?_;clear ua0 ub0 ua1 ub1;refine kgl (some 13) rfl rfl Tryz.func130 #[.agg #[.bool a0_0,.slice A0_1 l0_1.length c0_1],.agg #[.bool a1_0,.slice A1_1 l1_1.length c1_1]] rfl ?_;refine(tribunalref02_Cut.calls _ a0_0 _ _ l0_1 a1_0 _ _ l1_1 z7 x8 z9 x10 _ (K.C 0 rfl) (K.le 0 rfl) (K.C 1 rfl) (K.le 1 rfl) A11.out).mono ?_;rintro e W16 ⟨v12,v13,rfl,ho14,ho15,hb⟩;refine⟨_,rfl,?_⟩;have K1:=K.u.addF (fun _=>False) hb ho14;replace K:=K.u.moreF (fun _=>False) K1 ho15;clear K1;clear hb ho14 ho15;obtain⟨P17,c18,e19⟩:=K.slice 2 rfl;subst e19;obtain⟨P20,c21,e22⟩:=K.slice 3 rfl;subst e22)|(refine gd 7 rfl ?_;refine kbk 7 #[.bool false,.slice none 0 0] 85 K.u ?_;clear K;intro g23 W24 K)|(refine gd 8 rfl ?_;refine kbk 8 #[.bool false,.slice none 0 0] 85 K.u ?_;clear K;intro g25 W26 K)|(refine gs 85 7 14 rfl ?_;refine ks2 3 (.bool z7) (.slice P17 x8.length c18) K.u rfl ?_;clear K;intro W27 K;simp only[kls,klv]at K)|(refine gs 85 8 15 rfl ?_;refine ks2 4 (.bool z9) (.slice P20 x10.length c21) K.u rfl ?_;clear K;intro W29 K;simp only[kls,klv]at K;obtain⟨ua4,ub4⟩:=K.cell2 4 rfl;obtain⟨ua0,ub0⟩:=K.cell2 0 rfl;obtain⟨ua1,ub1⟩:=K.cell2 1 rfl;obtain⟨ua3,ub3⟩:=K.cell2 3 rfl)|(refine gs 85 6 42 rfl ?_;clear ua4 ub4 ua0 ub0 ua1 ub1 ua3 ub3;refine ks2 2 (.bool z7) (.slice P17 x8.length c18) K.u rfl ?_;clear K;intro W31 K;simp only[kls,klv]at K))
  refine bodyPost_ret (results_single rfl (.cell g5 85 #[.bool z7,.slice P17 x8.length c18] (0,0) _ rfl (K.u.heap 2 rfl) Tryz.underlying85 rfl (by kernel_rfl) .nil)) rfl ?_
  exact⟨_,rfl,K.u.hand 2 rfl (fun _ h=>h.elim (fun h=>h.elim) id),K.u.below⟩
 replace c_1:=Bool.eq_false_iff.mpr c_1
 subst c_1
 rw[if_neg (by decide)]at h
 obtain⟨k,rfl⟩:∃j,k=j+1:=by
  cases k with
  | zero=>simp[tribunalref02_Rounded.j0]at h
  | succ k=>exact⟨k,rfl⟩
 rw[tribunalref02_Rounded.j0]at h
 rw[if_neg (by decide)]at h
 rw[if_neg (by decide)]at h
 obtain⟨k,rfl⟩:∃j,k=j+1:=by
  cases k with
  | zero=>simp[tribunalref02_Rounded.j1]at h
  | succ k=>exact⟨k,rfl⟩
 rw[tribunalref02_Rounded.j1]at h
 by_cases c_3:(a0_0 != a1_0)=true
 ·rw[if_pos c_3]at h
  have c_3b:(a0_0==a1_0)=false:=by simpa using c_3
  go_enter Tryz.func66,Tryz.ntmps66
  go_wp2_with (first|(refine gd 3 rfl ?_;refine kbk 3 #[.bool a0_0,.slice A0_1 l0_1.length c0_1] 85 K.u ?_;clear K;intro g1 W2 K)|(refine gd 4 rfl ?_;refine kbk 4 #[.bool a1_0,.slice A1_1 l1_1.length c1_1] 85 K.u ?_;clear K;intro g3 W4 K)|(refine gd 6 rfl ?_;refine kbk 6 #[.bool false,.slice none 0 0] 85 K.u ?_;clear K;intro g5 W6 K;obtain⟨ua0,ub0⟩:=K.cell2 0 rfl;obtain⟨ua1,ub1⟩:=K.cell2 1 rfl)|(refine gd 13 rfl ?_;clear ua0 ub0 ua1 ub1;refine kgl (some 13) rfl rfl Tryz.func130 #[.agg #[.bool a0_0,.slice A0_1 l0_1.length c0_1],.agg #[.bool a1_0,.slice A1_1 l1_1.length c1_1]] rfl ?_;refine(tribunalref02_Cut.calls _ a0_0 _ _ l0_1 a1_0 _ _ l1_1 z7 x8 z9 x10 _ (K.C 0 rfl) (K.le 0 rfl) (K.C 1 rfl) (K.le 1 rfl) A11.out).mono ?_;rintro e W16 ⟨v12,v13,rfl,ho14,ho15,hb⟩;refine⟨_,rfl,?_⟩;have K1:=K.u.addF (fun _=>False) hb ho14;replace K:=K.u.moreF (fun _=>False) K1 ho15;clear K1;clear hb ho14 ho15;obtain⟨P17,c18,e19⟩:=K.slice 2 rfl;subst e19;obtain⟨P20,c21,e22⟩:=K.slice 3 rfl;subst e22)|(refine gd 7 rfl ?_;refine kbk 7 #[.bool false,.slice none 0 0] 85 K.u ?_;clear K;intro g23 W24 K)|(refine gd 8 rfl ?_;refine kbk 8 #[.bool false,.slice none 0 0] 85 K.u ?_;clear K;intro g25 W26 K)|(refine gs 85 7 14 rfl ?_;refine ks2 3 (.bool z7) (.slice P17 x8.length c18) K.u rfl ?_;clear K;intro W27 K;simp only[kls,klv]at K)|(refine gs 85 8 15 rfl ?_;refine ks2 4 (.bool z9) (.slice P20 x10.length c21) K.u rfl ?_;clear K;intro W29 K;simp only[kls,klv]at K;obtain⟨ua4,ub4⟩:=K.cell2 4 rfl;obtain⟨ua0,ub0⟩:=K.cell2 0 rfl;obtain⟨ua1,ub1⟩:=K.cell2 1 rfl))
  clear ua4 ub4 ua0 ub0 ua1 ub1
  replace h:=bindA h
  obtain⟨⟨z31,x32⟩,A33,h⟩:=h
  dsimp only at h
  replace h:=bindA h
  obtain⟨⟨z34,x35⟩,A36,h⟩:=h
  dsimp only at h
  obtain⟨Bs,Vs,Os,hBs,hVs,hOs,K⟩:=K.abs
  have HS:Aside0 (∀l m o W,Kp w (Bs++l) m o W→W.cell? ⟨g23,0,none⟩=some (.bool z7)∧W.cell? ⟨g23,1,none⟩=some (.slice P17 x8.length c18)):=⟨fun l m o W K=>by rw[hBs.out]at K;exact⟨K.cell 3 rfl 0 rfl,K.cell 3 rfl 1 rfl⟩⟩
  refine kpstart (n:=4) (ds:=[]) (S:=fun W=>W.cell? ⟨g23,0,none⟩=some (.bool z7)∧W.cell? ⟨g23,1,none⟩=some (.slice P17 x8.length c18)) (bm_ 4 0) (by kernel_rfl) rfl rfl K (HS.out [] _ _) (fun W39 K hH=>?_)
  refine tk_ 0 39 ?_ (bm_ 4 1) rfl rfl (by kernel_rfl) (fun _ _ _ h=>h) (by rfl) ?_ hH ?_ ?_ ?_
  rotate_left
  ·rintro w' ⟨s0,s1⟩
   go_simp
   with_reducible rfl
  rotate_left
  ·simp only[Act.put,kss,i64_w,i32_w]
   rfl
  refine one_ (i:=1) (N:=some 40) (bm_ 4 3) rfl rfl (by kernel_rfl) (by decide) (fun Kc hK=>?_)
  refine kgo Tryz.func117 #[.int .i64 (-1)] (by rfl) rfl rfl ?_
  refine(tribunalref02_Small1.calls _ (-1) z31 x32 _ A33.out).mono ?_
  rintro e W' ⟨v37,rfl,ho40,hb⟩
  replace K:=K.addFI 0 (fun _=>False) hb ho40
  clear hb ho40
  refine⟨_,rfl,hK.out _ _ (HS.out _ _ _ _ K) fun hH=>?_⟩
  clear hK Kc
  refine norm_ (a':=?_) ?_ ?_
  rotate_left
  ·show Act.put _ (some 40) _=_
   simp only[Act.put,kss,i64_w,i32_w]
   rfl
  refine one_ (i:=2) (N:=some 41) (bm_ 4 7) rfl rfl (by kernel_rfl) (by decide) (fun Kc hK=>?_)
  obtain⟨P41,c42,e43⟩:=K.slice 4 (hv hVs rfl)
  subst e43
  refine kgo Tryz.func131 #[.agg #[.bool z7,.slice P17 x8.length c18],.agg #[.bool z31,.slice P41 x32.length c42]] (by rfl) rfl rfl ?_
  refine(tribunalref02_Plus.calls _ z7 _ _ x8 z31 _ _ x32 z34 x35 _ (K.C 2 (hv hVs rfl)) (K.le 2 (hv hVs rfl)) (K.C 4 (hv hVs rfl)) (K.le 4 (hv hVs rfl)) A36.out).mono ?_
  rintro e W' ⟨v38,rfl,ho44,hb⟩
  replace K:=K.addFI 1 (fun _=>False) hb ho44
  clear hb ho44
  refine⟨_,rfl,hK.out _ _ (HS.out _ _ _ _ K) fun hH=>?_⟩
  clear hK Kc
  refine norm_ (a':=?_) ?_ ?_
  rotate_left
  ·show Act.put _ (some 41) _=_
   simp only[Act.put,kss,i64_w,i32_w]
   rfl
  obtain⟨P45,c46,e47⟩:=K.slice 5 (hv hVs rfl)
  subst e47
  rw[hBs.out,hVs.out,hOs.out]at K
  simp only[kls,klv]at K
  clear hBs hVs hOs HS hH
  refine ko2 (i:=3) (bm_ 4 15) 2 (.bool z34) (.slice P45 x35.length c46) K rfl rfl rfl (by kernel_rfl) (by decide) (by rfl) (fun W K=>⟨K.cell 3 rfl 0 rfl,K.cell 3 rfl 1 rfl⟩) ?_
  clear K
  intro W48 K
  simp only[kls,klv]at K
  refine done_ (by kernel_rfl) ?_
  simp only[Option.some.injEq,Prod.mk.injEq]at h
  obtain⟨rfl,rfl⟩:=h
  go_wp2
  refine bodyPost_ret (results_single rfl (.cell g5 85 #[.bool z34,.slice P45 x35.length c46] (0,0) _ rfl (K.u.heap 2 rfl) Tryz.underlying85 rfl (by kernel_rfl) .nil)) rfl ?_
  exact⟨_,rfl,K.u.hand 5 rfl (fun _ h=>h.elim (fun h=>h.elim) id),K.u.below⟩
 rw[if_neg c_3]at h
 replace c_3:=Bool.eq_false_iff.mpr c_3
 have c_3b:(a0_0==a1_0)=true:=by simpa using c_3
 simp only[Option.some.injEq,Prod.mk.injEq]at h
 obtain⟨rfl,rfl⟩:=h
 go_enter Tryz.func66,Tryz.ntmps66
 go_wp2_with (first|(refine gd 3 rfl ?_;refine kbk 3 #[.bool a0_0,.slice A0_1 l0_1.length c0_1] 85 K.u ?_;clear K;intro g1 W2 K)|(refine gd 4 rfl ?_;refine kbk 4 #[.bool a1_0,.slice A1_1 l1_1.length c1_1] 85 K.u ?_;clear K;intro g3 W4 K)|(refine gd 6 rfl ?_;refine kbk 6 #[.bool false,.slice none 0 0] 85 K.u ?_;clear K;intro g5 W6 K;obtain⟨ua0,ub0⟩:=K.cell2 0 rfl;obtain⟨ua1,ub1⟩:=K.cell2 1 rfl)|(refine gd 13 rfl ?_;clear ua0 ub0 ua1 ub1;refine kgl (some 13) rfl rfl Tryz.func130 #[.agg #[.bool a0_0,.slice A0_1 l0_1.length c0_1],.agg #[.bool a1_0,.slice A1_1 l1_1.length c1_1]] rfl ?_;refine(tribunalref02_Cut.calls _ a0_0 _ _ l0_1 a1_0 _ _ l1_1 z7 x8 z9 x10 _ (K.C 0 rfl) (K.le 0 rfl) (K.C 1 rfl) (K.le 1 rfl) A11.out).mono ?_;rintro e W16 ⟨v12,v13,rfl,ho14,ho15,hb⟩;refine⟨_,rfl,?_⟩;have K1:=K.u.addF (fun _=>False) hb ho14;replace K:=K.u.moreF (fun _=>False) K1 ho15;clear K1;clear hb ho14 ho15;obtain⟨P17,c18,e19⟩:=K.slice 2 rfl;subst e19;obtain⟨P20,c21,e22⟩:=K.slice 3 rfl;subst e22)|(refine gd 7 rfl ?_;refine kbk 7 #[.bool false,.slice none 0 0] 85 K.u ?_;clear K;intro g23 W24 K)|(refine gd 8 rfl ?_;refine kbk 8 #[.bool false,.slice none 0 0] 85 K.u ?_;clear K;intro g25 W26 K)|(refine gs 85 7 14 rfl ?_;refine ks2 3 (.bool z7) (.slice P17 x8.length c18) K.u rfl ?_;clear K;intro W27 K;simp only[kls,klv]at K)|(refine gs 85 8 15 rfl ?_;refine ks2 4 (.bool z9) (.slice P20 x10.length c21) K.u rfl ?_;clear K;intro W29 K;simp only[kls,klv]at K;obtain⟨ua4,ub4⟩:=K.cell2 4 rfl;obtain⟨ua0,ub0⟩:=K.cell2 0 rfl;obtain⟨ua1,ub1⟩:=K.cell2 1 rfl;obtain⟨ua3,ub3⟩:=K.cell2 3 rfl)|(refine gs 85 6 42 rfl ?_;clear ua4 ub4 ua0 ub0 ua1 ub1 ua3 ub3;refine ks2 2 (.bool z7) (.slice P17 x8.length c18) K.u rfl ?_;clear K;intro W31 K;simp only[kls,klv]at K))
 refine bodyPost_ret (results_single rfl (.cell g5 85 #[.bool z7,.slice P17 x8.length c18] (0,0) _ rfl (K.u.heap 2 rfl) Tryz.underlying85 rfl (by kernel_rfl) .nil)) rfl ?_
 exact⟨_,rfl,K.u.hand 2 rfl (fun _ h=>h.elim (fun h=>h.elim) id),K.u.below⟩
end Go.Proofs.YtikencoikigllaaGreatDoor.PRy
namespace Go.Proofs.YtikencoikigllaaGreatDoor.PRy
open Go.RowKit Go.Proofs.YtikencoikigllaaGreatDoorW.PrintWords Go.Proofs.YtikencoikigllaaGreatDoorW.PrintLast Go.Proofs.YtikencoikigllaaGreatDoorW.PrintMore
open Go.Proofs.YtikencoikigllaaGreatDoor.Mine
attribute [local go_sem] max2_int min2_int max_two min_two max_three min_three max_four min_four
def tribunalref03_Rounded.f (k:Nat) (a0_0:Bool) (l0_1:List Int) (l0_2:List Int) (a1:Bool):Option (Bool×List Int×Int):=(tribunalref03_From.f k a0_0 l0_1 l0_2).bind fun bt620=>(if bt620.2.2.2.2=0 then((tribunalref02_Rounded.f k bt620.1 bt620.2.1 bt620.2.2.1 bt620.2.2.2.1 a1).bind fun bt630=>((tribunalref02_To.f k bt630.1 bt630.2).bind fun bt634=>(some (bt634.1,bt634.2,0)))) else(some (false,([]:List Int),bt620.2.2.2.2)))
theorem tribunalref03_Rounded.calls (k:Nat) (a0_0:Bool) (A0_1:Option Addr) (c0_1:Nat) (l0_1:List Int) (A0_2:Option Addr) (c0_2:Nat) (l0_2:List Int) (a1:Bool) (r1:Bool) (r2:List Int) (r3:Int) (w:World) (hr0_1:Kd.C (Kd.int .u64) w A0_1 l0_1.length l0_1) (hc0_1:l0_1.length≤c0_1) (hr0_2:Kd.C (Kd.int .u64) w A0_2 l0_2.length l0_2) (hc0_2:l0_2.length≤c0_2) (h:tribunalref03_Rounded.f k a0_0 l0_1 l0_2 a1=some (r1,r2,r3)) :
  Calls Tryz.prog 18 #[.agg #[.bool a0_0,.slice A0_1 l0_1.length c0_1,.slice A0_2 l0_2.length c0_2],.bool a1] w fun e w'=>∃v1_:Value,e=.returned (.tuple #[.agg #[.bool r1,v1_],.int .i64 r3])∧Kd.R (Kd.int .u64) 72 w' w.heap.size (fun _=>True) v1_ r2∧Below w.heap.size w w':=by
 have hu26:=Tryz.underlying26
 have hu39:=Tryz.underlying39
 have hu85:=Tryz.underlying85
 have hu108:=Tryz.underlying108
 have K:=Kp.refl w
 replace K:=K.parV (Kd.V_mono (ok':=fun _=>True) (Kd.V_mk (e:=72) (base:=0) hc0_1 (Kd.C_F (Kd.heap_int .u64) hr0_1)) (fun _ h=>trivial))
 clear hr0_1 hc0_1
 replace K:=K.parV (Kd.V_mono (ok':=fun _=>True) (Kd.V_mk (e:=72) (base:=0) hc0_2 (Kd.C_F (Kd.heap_int .u64) hr0_2)) (fun _ h=>trivial))
 clear hr0_2 hc0_2
 try simp only[klv]at K
 rw[tribunalref03_Rounded.f]at h
 replace h:=bindA h
 obtain⟨⟨z5,x6,z7,x8,n9⟩,A10,h⟩:=h
 dsimp only at h
 by_cases c_0:n9=0
 ·rw[if_pos c_0]at h
  have c_0b0:(n9==0)=true:=beq_iff_eq.mpr c_0
  have c_0b1:(n9 != 0)=false:=bne_eq_false_iff_eq.mpr c_0
  clear c_0
  replace h:=bindA h
  obtain⟨⟨z26,x27⟩,A28,h⟩:=h
  dsimp only at h
  replace h:=bindA h
  obtain⟨⟨z35,x36⟩,A37,h⟩:=h
  dsimp only at h
  simp only[Option.some.injEq,Prod.mk.injEq]at h
  obtain⟨rfl,rfl,rfl⟩:=h
  go_enter Tryz.func18,Tryz.ntmps18
  go_wp2_with (first|(refine gd 2 rfl ?_;refine kbk 2 #[.bool a0_0,.slice A0_1 l0_1.length c0_1,.slice A0_2 l0_2.length c0_2] 39 K.u ?_;clear K;intro g1 W2 K)|(refine gd 4 rfl ?_;refine kbk 4 #[.bool false,.slice none 0 0] 26 K.u ?_;clear K;intro g3 W4 K;have ua0:=K.cell 0 rfl 0 rfl;have ub0:=K.cell 0 rfl 1 rfl;have uc0:=K.cell 0 rfl 2 rfl)|(refine gd 10 rfl ?_;clear ua0 ub0 uc0;refine kgl (some 10) rfl rfl Tryz.func64 #[.agg #[.bool a0_0,.slice A0_1 l0_1.length c0_1,.slice A0_2 l0_2.length c0_2]] rfl ?_;refine(tribunalref03_From.calls _ a0_0 _ _ l0_1 _ _ l0_2 z5 x6 z7 x8 n9 _ (K.C 0 rfl) (K.le 0 rfl) (K.C 1 rfl) (K.le 1 rfl) A10.out).mono ?_;rintro e W15 ⟨v11,v12,rfl,ho13,ho14,hb⟩;refine⟨_,rfl,?_⟩;have K1:=K.u.addF (fun _=>True) hb ho13;replace K:=K.u.moreF (fun _=>True) K1 ho14;clear K1;clear hb ho13 ho14;obtain⟨P16,c17,e18⟩:=K.slice 2 rfl;subst e18;obtain⟨P19,c20,e21⟩:=K.slice 3 rfl;subst e21)|(refine gd 6 rfl ?_;refine kbk 6 #[.bool false,.slice none 0 0,.bool false,.slice none 0 0] 108 K.u ?_;clear K;intro g22 W23 K)|(refine gs 108 6 11 rfl ?_;refine kstN 2 0 [.bool z5,.slice P16 x6.length c17,.bool z7,.slice P19 x8.length c20] K.u rfl ?q25 ?_;(case q25=>intro hc hf;have c0:=hc 0 _ rfl;have f0:=hf 0;have c1:=hc 1 _ rfl;have f1:=hf 1;have c2:=hc 2 _ rfl;have f2:=hf 2;have c3:=hc 3 _ rfl;have f3:=hf 3;clear hc hf;first|(go_simp;done)|(go_simp;rfl));clear K;intro W24 K;simp only[kls,klv,kpl,kss]at K;have ua2:=K.cell 2 rfl 0 rfl;have ub2:=K.cell 2 rfl 1 rfl;have uc2:=K.cell 2 rfl 2 rfl;have ud2:=K.cell 2 rfl 3 rfl)|(refine gd 22 rfl ?_;clear ua2 ub2 uc2 ud2;refine kgl (some 22) rfl rfl Tryz.func66 #[.agg #[.bool z5,.slice P16 x6.length c17],.agg #[.bool z7,.slice P19 x8.length c20],.bool a1] rfl ?_;refine(tribunalref02_Rounded.calls _ z5 _ _ x6 z7 _ _ x8 a1 z26 x27 _ (K.C 2 rfl) (K.le 2 rfl) (K.C 3 rfl) (K.le 3 rfl) A28.out).mono ?_;rintro e W31 ⟨v29,rfl,ho30,hb⟩;refine⟨_,rfl,?_⟩;replace K:=K.u.addF (fun _=>True) hb ho30;clear hb ho30;obtain⟨P32,c33,e34⟩:=K.slice 4 rfl;subst e34)|(refine gd 23 rfl ?_;refine kgl (some 23) rfl rfl Tryz.func65 #[.agg #[.bool z26,.slice P32 x27.length c33]] rfl ?_;refine(tribunalref02_To.calls _ z26 _ _ x27 z35 x36 _ (K.C 4 rfl) (K.le 4 rfl) A37.out).mono ?_;rintro e W40 ⟨v38,rfl,ho39,hb⟩;refine⟨_,rfl,?_⟩;replace K:=K.u.addRE hb ho39;clear hb ho39;obtain⟨P41,c42,e43⟩:=K.slice 5 rfl;subst e43)|(refine gs 26 4 23 rfl ?_;refine ks2 1 (.bool z35) (.slice P41 x36.length c42) K.u rfl ?_;clear K;intro W44 K;simp only[kls,klv]at K))
  refine bodyPost_ret (results_list (rs:=[.cell 4 26,.tmp 5]) rfl (by simp) (.cell g3 26 #[.bool z35,.slice P41 x36.length c42] (0,0) _ rfl (K.u.heap 1 rfl) Tryz.underlying26 rfl (by kernel_rfl) (.tmp .nil))) rfl ?_
  exact⟨_,rfl,K.u.R 0 rfl,K.u.below⟩
 rw[if_neg c_0]at h
 have c_0b0:(n9==0)=false:=beq_eq_false_iff_ne.mpr c_0
 have c_0b1:(n9 != 0)=true:=bne_iff_ne.mpr c_0
 clear c_0
 simp only[Option.some.injEq,Prod.mk.injEq]at h
 obtain⟨rfl,rfl,rfl⟩:=h
 go_enter Tryz.func18,Tryz.ntmps18
 go_wp2_with (first|(refine gd 2 rfl ?_;refine kbk 2 #[.bool a0_0,.slice A0_1 l0_1.length c0_1,.slice A0_2 l0_2.length c0_2] 39 K.u ?_;clear K;intro g1 W2 K)|(refine gd 4 rfl ?_;refine kbk 4 #[.bool false,.slice none 0 0] 26 K.u ?_;clear K;intro g3 W4 K;have ua0:=K.cell 0 rfl 0 rfl;have ub0:=K.cell 0 rfl 1 rfl;have uc0:=K.cell 0 rfl 2 rfl)|(refine gd 10 rfl ?_;clear ua0 ub0 uc0;refine kgl (some 10) rfl rfl Tryz.func64 #[.agg #[.bool a0_0,.slice A0_1 l0_1.length c0_1,.slice A0_2 l0_2.length c0_2]] rfl ?_;refine(tribunalref03_From.calls _ a0_0 _ _ l0_1 _ _ l0_2 z5 x6 z7 x8 n9 _ (K.C 0 rfl) (K.le 0 rfl) (K.C 1 rfl) (K.le 1 rfl) A10.out).mono ?_;rintro e W15 ⟨v11,v12,rfl,ho13,ho14,hb⟩;refine⟨_,rfl,?_⟩;have K1:=K.u.addF (fun _=>True) hb ho13;replace K:=K.u.moreF (fun _=>True) K1 ho14;clear K1;clear hb ho13 ho14;obtain⟨P16,c17,e18⟩:=K.slice 2 rfl;subst e18;obtain⟨P19,c20,e21⟩:=K.slice 3 rfl;subst e21)|(refine gd 6 rfl ?_;refine kbk 6 #[.bool false,.slice none 0 0,.bool false,.slice none 0 0] 108 K.u ?_;clear K;intro g22 W23 K)|(refine gs 108 6 11 rfl ?_;refine kstN 2 0 [.bool z5,.slice P16 x6.length c17,.bool z7,.slice P19 x8.length c20] K.u rfl ?q25 ?_;(case q25=>intro hc hf;have c0:=hc 0 _ rfl;have f0:=hf 0;have c1:=hc 1 _ rfl;have f1:=hf 1;have c2:=hc 2 _ rfl;have f2:=hf 2;have c3:=hc 3 _ rfl;have f3:=hf 3;clear hc hf;first|(go_simp;done)|(go_simp;rfl));clear K;intro W24 K;simp only[kls,klv,kpl,kss]at K)|(refine gs 26 4 15 rfl ?_;refine ks2 1 (.bool false) (.slice none 0 0) K.u rfl ?_;clear K;intro W26 K;simp only[kls,klv]at K))
 refine bodyPost_ret (results_list (rs:=[.cell 4 26,.tmp 5]) rfl (by simp) (.cell g3 26 #[.bool false,.slice none 0 0] (0,0) _ rfl (K.u.heap 1 rfl) Tryz.underlying26 rfl (by kernel_rfl) (.tmp .nil))) rfl ?_
 exact⟨_,rfl,Kd.R_nil _ _ _ _ _,K.u.below⟩
def whole_Ceil.f (k:Nat) (a0_0:Bool) (l0_1:List Int) (a1_0:Bool) (l1_1:List Int):Option (Bool×List Int×Int):=(whole_rounded.f k a0_0 l0_1 a1_0 l1_1 true).bind fun bt641=>(some (bt641.1,bt641.2.1,bt641.2.2))
theorem whole_Ceil.calls (k:Nat) (a0_0:Bool) (A0_1:Option Addr) (c0_1:Nat) (l0_1:List Int) (a1_0:Bool) (A1_1:Option Addr) (c1_1:Nat) (l1_1:List Int) (r1:Bool) (r2:List Int) (r3:Int) (w:World) (hr0_1:Kd.C (Kd.int .u64) w A0_1 l0_1.length l0_1) (hc0_1:l0_1.length≤c0_1) (hr1_1:Kd.C (Kd.int .u64) w A1_1 l1_1.length l1_1) (hc1_1:l1_1.length≤c1_1) (h:whole_Ceil.f k a0_0 l0_1 a1_0 l1_1=some (r1,r2,r3)) :
  Calls Tryz.prog 67 #[.agg #[.bool a0_0,.slice A0_1 l0_1.length c0_1],.agg #[.bool a1_0,.slice A1_1 l1_1.length c1_1]] w fun e w'=>∃v1_:Value,e=.returned (.tuple #[.agg #[.bool r1,v1_],.int .i64 r3])∧Kd.R (Kd.int .u64) 72 w' w.heap.size (fun _=>True) v1_ r2∧Below w.heap.size w w':=by
 have hu26:=Tryz.underlying26
 have K:=Kp.refl w
 replace K:=K.parV (Kd.V_mono (ok':=fun _=>True) (Kd.V_mk (e:=72) (base:=0) hc0_1 (Kd.C_F (Kd.heap_int .u64) hr0_1)) (fun _ h=>trivial))
 clear hr0_1 hc0_1
 replace K:=K.parV (Kd.V_mono (ok':=fun _=>True) (Kd.V_mk (e:=72) (base:=0) hc1_1 (Kd.C_F (Kd.heap_int .u64) hr1_1)) (fun _ h=>trivial))
 clear hr1_1 hc1_1
 try simp only[klv]at K
 rw[whole_Ceil.f]at h
 replace h:=bindA h
 obtain⟨⟨z7,x8,n9⟩,A10,h⟩:=h
 dsimp only at h
 simp only[Option.some.injEq,Prod.mk.injEq]at h
 obtain⟨rfl,rfl,rfl⟩:=h
 go_enter Tryz.func67,Tryz.ntmps67
 go_wp2_with (first|(refine gd 2 rfl ?_;refine kbk 2 #[.bool a0_0,.slice A0_1 l0_1.length c0_1] 26 K.u ?_;clear K;intro g1 W2 K)|(refine gd 3 rfl ?_;refine kbk 3 #[.bool a1_0,.slice A1_1 l1_1.length c1_1] 26 K.u ?_;clear K;intro g3 W4 K)|(refine gd 4 rfl ?_;refine kbk 4 #[.bool false,.slice none 0 0] 26 K.u ?_;clear K;intro g5 W6 K;obtain⟨ua0,ub0⟩:=K.cell2 0 rfl;obtain⟨ua1,ub1⟩:=K.cell2 1 rfl)|(refine gd 8 rfl ?_;clear ua0 ub0 ua1 ub1;refine kgl (some 8) rfl rfl Tryz.func129 #[.agg #[.bool a0_0,.slice A0_1 l0_1.length c0_1],.agg #[.bool a1_0,.slice A1_1 l1_1.length c1_1],.bool true] rfl ?_;refine(whole_rounded.calls _ a0_0 _ _ l0_1 a1_0 _ _ l1_1 true z7 x8 n9 _ (K.C 0 rfl) (K.le 0 rfl) (K.C 1 rfl) (K.le 1 rfl) A10.out).mono ?_;rintro e W13 ⟨v11,rfl,ho12,hb⟩;refine⟨_,rfl,?_⟩;replace K:=K.u.addRE hb ho12;clear hb ho12;obtain⟨P14,c15,e16⟩:=K.slice 2 rfl;subst e16)|(refine gs 26 4 9 rfl ?_;refine ks2 2 (.bool z7) (.slice P14 x8.length c15) K.u rfl ?_;clear K;intro W17 K;simp only[kls,klv]at K))
 refine bodyPost_ret (results_list (rs:=[.cell 4 26,.tmp 5]) rfl (by simp) (.cell g5 26 #[.bool z7,.slice P14 x8.length c15] (0,0) _ rfl (K.u.heap 2 rfl) Tryz.underlying26 rfl (by kernel_rfl) (.tmp .nil))) rfl ?_
 exact⟨_,rfl,K.u.R 0 rfl,K.u.below⟩
def ratio_Ceil.f (k:Nat) (a0_0:Bool) (l0_1:List Int) (l0_2:List Int):Option (Bool×List Int×Int):=(ratio_made.f k a0_0 l0_1 l0_2).bind fun bt648=>(if bt648.2.2.2.2=0 then((whole_Ceil.f k bt648.1 bt648.2.1 bt648.2.2.1 bt648.2.2.2.1).bind fun bt658=>(some (bt658.1,bt658.2.1,0))) else(some (false,([]:List Int),bt648.2.2.2.2)))
theorem ratio_Ceil.calls (k:Nat) (a0_0:Bool) (A0_1:Option Addr) (c0_1:Nat) (l0_1:List Int) (A0_2:Option Addr) (c0_2:Nat) (l0_2:List Int) (r1:Bool) (r2:List Int) (r3:Int) (w:World) (hr0_1:Kd.C (Kd.int .u64) w A0_1 l0_1.length l0_1) (hc0_1:l0_1.length≤c0_1) (hr0_2:Kd.C (Kd.int .u64) w A0_2 l0_2.length l0_2) (hc0_2:l0_2.length≤c0_2) (h:ratio_Ceil.f k a0_0 l0_1 l0_2=some (r1,r2,r3)) :
  Calls Tryz.prog 19 #[.agg #[.bool a0_0,.slice A0_1 l0_1.length c0_1,.slice A0_2 l0_2.length c0_2]] w fun e w'=>∃v1_:Value,e=.returned (.tuple #[.agg #[.bool r1,v1_],.int .i64 r3])∧Kd.R (Kd.int .u64) 72 w' w.heap.size (fun _=>True) v1_ r2∧Below w.heap.size w w':=by
 have hu26:=Tryz.underlying26
 have hu39:=Tryz.underlying39
 have hu101:=Tryz.underlying101
 have hu103:=Tryz.underlying103
 have K:=Kp.refl w
 replace K:=K.parV (Kd.V_mono (ok':=fun _=>True) (Kd.V_mk (e:=72) (base:=0) hc0_1 (Kd.C_F (Kd.heap_int .u64) hr0_1)) (fun _ h=>trivial))
 clear hr0_1 hc0_1
 replace K:=K.parV (Kd.V_mono (ok':=fun _=>True) (Kd.V_mk (e:=72) (base:=0) hc0_2 (Kd.C_F (Kd.heap_int .u64) hr0_2)) (fun _ h=>trivial))
 clear hr0_2 hc0_2
 try simp only[klv]at K
 rw[ratio_Ceil.f]at h
 replace h:=bindA h
 obtain⟨⟨z5,x6,z7,x8,n9⟩,A10,h⟩:=h
 dsimp only at h
 by_cases c_0:n9=0
 ·rw[if_pos c_0]at h
  have c_0b0:(n9==0)=true:=beq_iff_eq.mpr c_0
  have c_0b1:(n9 != 0)=false:=bne_eq_false_iff_eq.mpr c_0
  clear c_0
  replace h:=bindA h
  obtain⟨⟨z26,x27,n28⟩,A29,h⟩:=h
  dsimp only at h
  simp only[Option.some.injEq,Prod.mk.injEq]at h
  obtain⟨rfl,rfl,rfl⟩:=h
  go_enter Tryz.func19,Tryz.ntmps19
  go_wp2_with (first|(refine gd 1 rfl ?_;refine kbk 1 #[.bool a0_0,.slice A0_1 l0_1.length c0_1,.slice A0_2 l0_2.length c0_2] 39 K.u ?_;clear K;intro g1 W2 K)|(refine gd 2 rfl ?_;refine kbk 2 #[.bool false,.slice none 0 0] 26 K.u ?_;clear K;intro g3 W4 K;have ua0:=K.cell 0 rfl 0 rfl;have ub0:=K.cell 0 rfl 1 rfl;have uc0:=K.cell 0 rfl 2 rfl)|(refine gd 10 rfl ?_;clear ua0 ub0 uc0;refine kgl (some 10) rfl rfl Tryz.func62 #[.agg #[.bool a0_0,.slice A0_1 l0_1.length c0_1,.slice A0_2 l0_2.length c0_2]] rfl ?_;refine(ratio_made.calls _ a0_0 _ _ _ l0_1 _ _ _ l0_2 z5 x6 z7 x8 n9 _ (K.V 0 rfl) (K.V 1 rfl) A10.out).mono ?_;rintro e W15 ⟨v11,v12,rfl,ho13,ho14,hb⟩;refine⟨_,rfl,?_⟩;have K1:=K.u.add (fun _=>True) hb ho13 (fun _ h=>h.elim (fun h=>h.t) fun h=>h.t);replace K:=K.u.more (fun _=>True) K1 ho14 (fun _ h=>h.elim (fun h=>h.t) fun h=>h.t);clear K1;clear hb ho13 ho14;obtain⟨P16,c17,e18⟩:=K.slice 2 rfl;subst e18;obtain⟨P19,c20,e21⟩:=K.slice 3 rfl;subst e21)|(refine gd 4 rfl ?_;refine kbk 4 #[.bool false,.slice none 0 0,.bool false,.slice none 0 0] 103 K.u ?_;clear K;intro g22 W23 K)|(refine gs 103 4 11 rfl ?_;refine kstN 2 0 [.bool z5,.slice P16 x6.length c17,.bool z7,.slice P19 x8.length c20] K.u rfl ?q25 ?_;(case q25=>intro hc hf;have c0:=hc 0 _ rfl;have f0:=hf 0;have c1:=hc 1 _ rfl;have f1:=hf 1;have c2:=hc 2 _ rfl;have f2:=hf 2;have c3:=hc 3 _ rfl;have f3:=hf 3;clear hc hf;first|(go_simp;done)|(go_simp;rfl));clear K;intro W24 K;simp only[kls,klv,kpl,kss]at K;have ua2:=K.cell 2 rfl 0 rfl;have ub2:=K.cell 2 rfl 1 rfl;have uc2:=K.cell 2 rfl 2 rfl;have ud2:=K.cell 2 rfl 3 rfl)|(refine gd 24 rfl ?_;clear ua2 ub2 uc2 ud2;refine kgl (some 24) rfl rfl Tryz.func67 #[.agg #[.bool z5,.slice P16 x6.length c17],.agg #[.bool z7,.slice P19 x8.length c20]] rfl ?_;refine(whole_Ceil.calls _ z5 _ _ x6 z7 _ _ x8 z26 x27 n28 _ (K.C 2 rfl) (K.le 2 rfl) (K.C 3 rfl) (K.le 3 rfl) A29.out).mono ?_;rintro e W32 ⟨v30,rfl,ho31,hb⟩;refine⟨_,rfl,?_⟩;replace K:=K.u.addRE hb ho31;clear hb ho31;obtain⟨P33,c34,e35⟩:=K.slice 4 rfl;subst e35)|(refine gd 6 rfl ?_;refine kbk 6 #[.bool false,.slice none 0 0] 26 K.u ?_;clear K;intro g36 W37 K)|(refine gs 26 6 25 rfl ?_;refine ks2 3 (.bool z26) (.slice P33 x27.length c34) K.u rfl ?_;clear K;intro W38 K;simp only[kls,klv]at K;obtain⟨ua3,ub3⟩:=K.cell2 3 rfl)|(refine gs 26 2 27 rfl ?_;clear ua3 ub3;refine ks2 1 (.bool z26) (.slice P33 x27.length c34) K.u rfl ?_;clear K;intro W40 K;simp only[kls,klv]at K))
  refine bodyPost_ret (results_list (rs:=[.cell 2 26,.tmp 3]) rfl (by simp) (.cell g3 26 #[.bool z26,.slice P33 x27.length c34] (0,0) _ rfl (K.u.heap 1 rfl) Tryz.underlying26 rfl (by kernel_rfl) (.tmp .nil))) rfl ?_
  exact⟨_,rfl,K.u.R 0 rfl,K.u.below⟩
 rw[if_neg c_0]at h
 have c_0b0:(n9==0)=false:=beq_eq_false_iff_ne.mpr c_0
 have c_0b1:(n9 != 0)=true:=bne_iff_ne.mpr c_0
 clear c_0
 simp only[Option.some.injEq,Prod.mk.injEq]at h
 obtain⟨rfl,rfl,rfl⟩:=h
 go_enter Tryz.func19,Tryz.ntmps19
 go_wp2_with (first|(refine gd 1 rfl ?_;refine kbk 1 #[.bool a0_0,.slice A0_1 l0_1.length c0_1,.slice A0_2 l0_2.length c0_2] 39 K.u ?_;clear K;intro g1 W2 K)|(refine gd 2 rfl ?_;refine kbk 2 #[.bool false,.slice none 0 0] 26 K.u ?_;clear K;intro g3 W4 K;have ua0:=K.cell 0 rfl 0 rfl;have ub0:=K.cell 0 rfl 1 rfl;have uc0:=K.cell 0 rfl 2 rfl)|(refine gd 10 rfl ?_;clear ua0 ub0 uc0;refine kgl (some 10) rfl rfl Tryz.func62 #[.agg #[.bool a0_0,.slice A0_1 l0_1.length c0_1,.slice A0_2 l0_2.length c0_2]] rfl ?_;refine(ratio_made.calls _ a0_0 _ _ _ l0_1 _ _ _ l0_2 z5 x6 z7 x8 n9 _ (K.V 0 rfl) (K.V 1 rfl) A10.out).mono ?_;rintro e W15 ⟨v11,v12,rfl,ho13,ho14,hb⟩;refine⟨_,rfl,?_⟩;have K1:=K.u.add (fun _=>True) hb ho13 (fun _ h=>h.elim (fun h=>h.t) fun h=>h.t);replace K:=K.u.more (fun _=>True) K1 ho14 (fun _ h=>h.elim (fun h=>h.t) fun h=>h.t);clear K1;clear hb ho13 ho14;obtain⟨P16,c17,e18⟩:=K.slice 2 rfl;subst e18;obtain⟨P19,c20,e21⟩:=K.slice 3 rfl;subst e21)|(refine gd 4 rfl ?_;refine kbk 4 #[.bool false,.slice none 0 0,.bool false,.slice none 0 0] 103 K.u ?_;clear K;intro g22 W23 K)|(refine gs 103 4 11 rfl ?_;refine kstN 2 0 [.bool z5,.slice P16 x6.length c17,.bool z7,.slice P19 x8.length c20] K.u rfl ?q25 ?_;(case q25=>intro hc hf;have c0:=hc 0 _ rfl;have f0:=hf 0;have c1:=hc 1 _ rfl;have f1:=hf 1;have c2:=hc 2 _ rfl;have f2:=hf 2;have c3:=hc 3 _ rfl;have f3:=hf 3;clear hc hf;first|(go_simp;done)|(go_simp;rfl));clear K;intro W24 K;simp only[kls,klv,kpl,kss]at K)|(refine gs 26 2 15 rfl ?_;refine ks2 1 (.bool false) (.slice none 0 0) K.u rfl ?_;clear K;intro W26 K;simp only[kls,klv]at K))
 refine bodyPost_ret (results_list (rs:=[.cell 2 26,.tmp 3]) rfl (by simp) (.cell g3 26 #[.bool false,.slice none 0 0] (0,0) _ rfl (K.u.heap 1 rfl) Tryz.underlying26 rfl (by kernel_rfl) (.tmp .nil))) rfl ?_
 exact⟨_,rfl,Kd.R_nil _ _ _ _ _,K.u.below⟩
def whole_Of.f (k:Nat) (a0:Int):Option (Bool×List Int):=if a0<0 then((whole_trimmed.f k (([IntKind.u64.wrap (-(IntKind.u64.wrap (a0)))]:List Int))).bind fun t668=>((whole_signed.f t668 true).bind fun bt671=>((whole_number_out.f bt671.1 bt671.2).bind fun bt675=>(some (bt675.1,bt675.2))))) else((whole_trimmed.f k (([IntKind.u64.wrap (a0)]:List Int))).bind fun t682=>((whole_signed.f t682 false).bind fun bt685=>((whole_number_out.f bt685.1 bt685.2).bind fun bt689=>(some (bt689.1,bt689.2)))))
theorem whole_Of.mono:∀a0 k,LeO (whole_Of.f k a0) (whole_Of.f (k+1) a0):=by
 intro a0 k
 unfold whole_Of.f
 repeat' first
   | (with_reducible first|exact whole_trimmed.mono _ _|exact LeO.refl _|exact LeO.none _|refine LeO.ite ?_ ?_|refine LeO.bind ?_ (fun _=>?_))
   | exact whole_trimmed.mono _ _
   | exact LeO.none _
   | refine LeO.ite ?_ ?_
   | refine LeO.bind ?_ (fun _=>?_)
theorem whole_Of.calls (k:Nat) (a0:Int) (r1:Bool) (r2:List Int) (w:World) (h:whole_Of.f k a0=some (r1,r2)) :
  Calls Tryz.prog 38 #[.int .i64 a0] w fun e w'=>∃v1_:Value,e=.returned (.agg #[.bool r1,v1_])∧Kd.R (Kd.int .u64) 72 w' w.heap.size (fun _=>True) v1_ r2∧Below w.heap.size w w':=by
 have hu26:=Tryz.underlying26
 have HB:=Aside0.mk (Below.refl w.heap.size w)
 have H:(if a0<0 then((whole_trimmed.f k (([IntKind.u64.wrap (-(IntKind.u64.wrap (a0)))]:List Int))).bind fun t668=>((whole_signed.f t668 true).bind fun bt671=>((whole_number_out.f bt671.1 bt671.2).bind fun bt675=>(some (bt675.1,bt675.2))))) else((whole_trimmed.f k (([IntKind.u64.wrap (a0)]:List Int))).bind fun t682=>((whole_signed.f t682 false).bind fun bt685=>((whole_number_out.f bt685.1 bt685.2).bind fun bt689=>(some (bt689.1,bt689.2))))))=some (r1,r2):=h
 clear h
 by_cases c2:a0<0
 ·rw[if_pos c2]at H
  have c2b0:decide (a0<0)=true:=decide_eq_true c2
  clear c2
  obtain⟨y665,hy665⟩:∃y_:List Int,y_=(([IntKind.u64.wrap (-(IntKind.u64.wrap (a0)))]:List Int)):=⟨_,rfl⟩
  replace H:((whole_trimmed.f k y665).bind fun t668=>((whole_signed.f t668 true).bind fun bt671=>((whole_number_out.f bt671.1 bt671.2).bind fun bt675=>(some (bt675.1,bt675.2)))))=some (r1,r2):=by first|(rw[hy665];with_reducible exact H)|(have H2_:=(Option.bind_some _ _).symm.trans H;rw[hy665];with_reducible exact H2_)|(have H2_:=(Option.bind_some _ _).symm.trans H;with_reducible exact H2_)|with_reducible exact H|(rw[hy665];exact H)|exact H
  have Ny665:=Aside0.mk hy665
  clear hy665
  replace H:=Option.bind_eq_some_iff.mp H
  obtain⟨t668,A30,H⟩:=H
  replace H:((whole_signed.f t668 true).bind fun bt671=>((whole_number_out.f bt671.1 bt671.2).bind fun bt675=>(some (bt675.1,bt675.2))))=some (r1,r2):=H
  have A3:=Aside0.mk A30
  clear A30
  replace H:=Option.bind_eq_some_iff.mp H
  obtain⟨⟨t671,t674⟩,A40,H⟩:=H
  replace H:((whole_number_out.f t671 t674).bind fun bt675=>(some (bt675.1,bt675.2)))=some (r1,r2):=H
  have A4:=Aside0.mk A40
  clear A40
  replace H:=Option.bind_eq_some_iff.mp H
  obtain⟨⟨t675,t676⟩,A50,H⟩:=H
  replace H:(some (t675,t676))=some (r1,r2):=H
  have A5:=Aside0.mk A50
  clear A50
  simp only[Option.some.injEq,Prod.mk.injEq]at H
  obtain⟨rfl,rfl⟩:=H
  go_enter Tryz.func38,Tryz.ntmps38
  go_wp2_with (first|(refine gd 2 rfl ?_;refine kbe 2 #[.bool false,.slice none 0 0] 26 ?_;intro gb664 hg w6 hbox hb;have BK664:=Aside0.mk (hbox);have GW664:=kbz hg HB;have GE664:=kbz hg HB;replace HB:=kbs HB hb;clear hb hbox hg)|(refine gd 11 rfl ?_;refine Kd.R_lit (Kd.int .u64) _ 72 ?hg (N:=11) ?hd (xs:=([IntKind.u64.wrap (-(IntKind.u64.wrap (a0)))]:List Int)) (inner:=[.int .u64 (IntKind.u64.wrap (-(IntKind.u64.wrap (a0))))]) (ok:=fun _=>True) (okp:=fun _=>True) ?hr ?hp (fun _ hk=>hk) trivial (Below.refl _ _) (Nat.le_refl _) (by simp) ?_;(case hd=>rfl);(case hg=>rfl);(case hr=>first|(go_simp;done)|(go_simp;rfl));(case hp=>exact(Reps.one (show Kd.M (Kd.int .u64) _ _ _ (IntKind.u64.wrap (-(IntKind.u64.wrap (a0)))) [.int .u64 (IntKind.u64.wrap (-(IntKind.u64.wrap (a0))))] from rfl) (Reps.none _ _)));intro v666 w7 ho8 hb hg_ hnew_;clear hg_ hnew_;(first|rw[←Ny665.out]at ho8|(simp only[Int.reduceToNat]at ho8;rw[←Ny665.out]at ho8));have HO667:=Aside0.mk (Kd.R_lower ho8 (below_size (khu HB.out)));replace BK664:=kbb BK664 hb;replace HB:=kbs HB hb;clear hb ho8;obtain⟨Ao9,co9,eo9⟩:=Kd.R_slice HO667.out;subst eo9)|((with_reducible refine gate_callee (f:=46) rfl ?_);refine kgl (some 12) rfl rfl Tryz.func46 #[.slice Ao9 y665.length co9] rfl ?_;(with_reducible refine(whole_trimmed.calls k (fun k_=>some k_=(.slice Ao9 y665.length co9:Value).ownBlock) _ _ y665 t668 _ ?side1 A3.out).mono ?_);(case side1=>exact Kd.R_V (Kd.R_tight rfl (Kd.R_types (HO667.out) BK664.out (by decide))));rintro e w10 ⟨v669,rfl,ho0,hb⟩;refine⟨_,rfl,?_⟩;have HO670:=Aside0.mk (Kd.V_lower (Kd.V_mono (ok':=fun k_=>k_≠gb664) ho0 (fun k_ hk_=>Or.elim hk_ (fun hs_=>((Kd.R_types (HO667.out) BK664.out (by decide)).1 k_ hs_.symm).2) (kfb BK664))) (below_size (khu HB.out)));replace HO667:=krb HO667 hb;replace BK664:=kbb BK664 hb;replace HB:=kbs HB hb;(try clear hb);(try clear hb2);(try clear hk);(try clear hi);(try clear ho0);obtain⟨Ao11,co11,eo11⟩:=Kd.V_slice HO670.out;subst eo11)|((with_reducible refine gate_callee (f:=47) rfl ?_);refine kgl (some 15) rfl rfl Tryz.func47 #[.slice Ao11 t668.length co11,.bool true] rfl ?_;(with_reducible refine(whole_signed.calls (fun k_=>k_≠gb664) _ _ t668 true t671 t674 _ ?side1 A4.out).mono ?_);(case side1=>exact HO670.out);rintro e w12 ⟨v672,rfl,ho0,hb⟩;refine⟨_,rfl,?_⟩;replace HO667:=krb HO667 hb;replace HO670:=kvb HO670 hb;have HO673:=Aside0.mk (Kd.V_lower (Kd.V_mono (ok':=fun k_=>k_≠gb664) ho0 (fun k_ hk_=>Or.elim hk_ (fun hs_=>hs_) (kfb BK664))) (below_size (khu HB.out)));replace BK664:=kbb BK664 hb;replace HB:=kbs HB hb;(try clear hb);(try clear hb2);(try clear hk);(try clear hi);(try clear ho0);obtain⟨Ao13,co13,eo13⟩:=Kd.V_slice HO673.out;subst eo13)|((with_reducible refine gate_callee (f:=60) rfl ?_);refine kgl (some 16) rfl rfl Tryz.func60 #[.agg #[.slice Ao13 t671.length co13,.bool t674]] rfl ?_;(with_reducible refine(whole_number_out.calls _ _ t671 t674 t675 t676 _ ?side1 ?side2 A5.out).mono ?_);(case side1=>repeat (first|exact(Kd.V_reads' HO673.out).2.2|(with_reducible refine Kd.C_alloc ?_ _)|(with_reducible refine Kd.C_drewN ?_ _)|(with_reducible refine Kd.C_drew ?_)));(case side2=>exact(Kd.V_reads' HO673.out).2.1);rintro e w14 ⟨v677,rfl,ho0,hb⟩;refine⟨_,rfl,?_⟩;replace HO670:=Aside0.mk (Kd.V_elder' (kvu HO670.out) (Kd.R_base ho0) hb);replace HO673:=Aside0.mk (Kd.V_elder' (kvu HO673.out) (Kd.R_base ho0) hb);have HO678:=Aside0.mk (Kd.R_lower (Kd.R_new' ho0 (Kd.R_lt (kru HO667.out))) (below_size (khu HB.out)));replace HO667:=Aside0.mk (Kd.R_elder' (kru HO667.out) (Kd.R_base ho0) hb);replace BK664:=kbb BK664 hb;replace HB:=kbs HB hb;(try clear hb);(try clear hb2);(try clear hk);(try clear hi);(try clear ho0);have hcz15_0:w14.cell? ⟨gb664,0,none⟩=some (.bool false):=(blk_cell BK664.out 0).trans rfl;have hcz15_1:w14.cell? ⟨gb664,1,none⟩=some (.slice none 0 0):=(blk_cell BK664.out 1).trans rfl;have hfz15_0:=blk_frozen BK664.out 0;have hfz15_1:=blk_frozen BK664.out 1;obtain⟨Ao16,co16,eo16⟩:=Kd.R_slice HO678.out;subst eo16))
  refine bodyPost_ret (results_cell_row rfl _ _ gb664 26 #[.bool t675,.slice Ao16 t676.length co16] (0,0) _ rfl (kpu #[.bool t675,.slice none 0 0] 1 (kpu #[.bool false,.slice none 0 0] 0 (kbu BK664.out))) Tryz.underlying26 rfl (by kernel_rfl)) rfl ?_
  exact⟨_,by first|rfl|(simp[*,errW_none,errW_some]<;>rfl),by(with_reducible repeat (first|apply Kd.R_alloc|apply Kd.R_drewN|apply Kd.R_drew));exact Kd.R_mono (Kd.R_far (p:=⟨gb664,1,none⟩) (Kd.R_far (p:=⟨gb664,0,none⟩) (Kd.R_types HO678.out BK664.out (by decide)) (fun _ hk=>hk.2) (.bool t675)) (fun _ hk=>hk.2) (.slice Ao16 t676.length co16)) (fun _ hk=>trivial),by repeat (first|(with_reducible first|exact HB.out|apply below_alloc|apply pw_below_drewN|apply below_drew1|refine below_set ?_ GE664.out)|exact HB.out)⟩
 rw[if_neg c2]at H
 have c2b0:decide (a0<0)=false:=decide_eq_false c2
 clear c2
 obtain⟨y679,hy679⟩:∃y_:List Int,y_=(([IntKind.u64.wrap (a0)]:List Int)):=⟨_,rfl⟩
 replace H:((whole_trimmed.f k y679).bind fun t682=>((whole_signed.f t682 false).bind fun bt685=>((whole_number_out.f bt685.1 bt685.2).bind fun bt689=>(some (bt689.1,bt689.2)))))=some (r1,r2):=by first|(rw[hy679];with_reducible exact H)|(have H2_:=(Option.bind_some _ _).symm.trans H;rw[hy679];with_reducible exact H2_)|(have H2_:=(Option.bind_some _ _).symm.trans H;with_reducible exact H2_)|with_reducible exact H|(rw[hy679];exact H)|exact H
 have Ny679:=Aside0.mk hy679
 clear hy679
 replace H:=Option.bind_eq_some_iff.mp H
 obtain⟨t682,A170,H⟩:=H
 replace H:((whole_signed.f t682 false).bind fun bt685=>((whole_number_out.f bt685.1 bt685.2).bind fun bt689=>(some (bt689.1,bt689.2))))=some (r1,r2):=H
 have A17:=Aside0.mk A170
 clear A170
 replace H:=Option.bind_eq_some_iff.mp H
 obtain⟨⟨t685,t688⟩,A180,H⟩:=H
 replace H:((whole_number_out.f t685 t688).bind fun bt689=>(some (bt689.1,bt689.2)))=some (r1,r2):=H
 have A18:=Aside0.mk A180
 clear A180
 replace H:=Option.bind_eq_some_iff.mp H
 obtain⟨⟨t689,t690⟩,A190,H⟩:=H
 replace H:(some (t689,t690))=some (r1,r2):=H
 have A19:=Aside0.mk A190
 clear A190
 simp only[Option.some.injEq,Prod.mk.injEq]at H
 obtain⟨rfl,rfl⟩:=H
 go_enter Tryz.func38,Tryz.ntmps38
 go_wp2_with (first|(refine gd 2 rfl ?_;refine kbe 2 #[.bool false,.slice none 0 0] 26 ?_;intro gb664 hg w20 hbox hb;have BK664:=Aside0.mk (hbox);have GW664:=kbz hg HB;have GE664:=kbz hg HB;replace HB:=kbs HB hb;clear hb hbox hg)|(refine gd 11 rfl ?_;refine Kd.R_lit (Kd.int .u64) _ 72 ?hg (N:=11) ?hd (xs:=([IntKind.u64.wrap (a0)]:List Int)) (inner:=[.int .u64 (IntKind.u64.wrap (a0))]) (ok:=fun _=>True) (okp:=fun _=>True) ?hr ?hp (fun _ hk=>hk) trivial (Below.refl _ _) (Nat.le_refl _) (by simp) ?_;(case hd=>rfl);(case hg=>rfl);(case hr=>first|(go_simp;done)|(go_simp;rfl));(case hp=>exact(Reps.one (show Kd.M (Kd.int .u64) _ _ _ (IntKind.u64.wrap (a0)) [.int .u64 (IntKind.u64.wrap (a0))] from rfl) (Reps.none _ _)));intro v680 w21 ho22 hb hg_ hnew_;clear hg_ hnew_;(first|rw[←Ny679.out]at ho22|(simp only[Int.reduceToNat]at ho22;rw[←Ny679.out]at ho22));have HO681:=Aside0.mk (Kd.R_lower ho22 (below_size (khu HB.out)));replace BK664:=kbb BK664 hb;replace HB:=kbs HB hb;clear hb ho22;obtain⟨Ao23,co23,eo23⟩:=Kd.R_slice HO681.out;subst eo23)|((with_reducible refine gate_callee (f:=46) rfl ?_);refine kgl (some 12) rfl rfl Tryz.func46 #[.slice Ao23 y679.length co23] rfl ?_;(with_reducible refine(whole_trimmed.calls k (fun k_=>some k_=(.slice Ao23 y679.length co23:Value).ownBlock) _ _ y679 t682 _ ?side1 A17.out).mono ?_);(case side1=>exact Kd.R_V (Kd.R_tight rfl (Kd.R_types (HO681.out) BK664.out (by decide))));rintro e w24 ⟨v683,rfl,ho0,hb⟩;refine⟨_,rfl,?_⟩;have HO684:=Aside0.mk (Kd.V_lower (Kd.V_mono (ok':=fun k_=>k_≠gb664) ho0 (fun k_ hk_=>Or.elim hk_ (fun hs_=>((Kd.R_types (HO681.out) BK664.out (by decide)).1 k_ hs_.symm).2) (kfb BK664))) (below_size (khu HB.out)));replace HO681:=krb HO681 hb;replace BK664:=kbb BK664 hb;replace HB:=kbs HB hb;(try clear hb);(try clear hb2);(try clear hk);(try clear hi);(try clear ho0);obtain⟨Ao25,co25,eo25⟩:=Kd.V_slice HO684.out;subst eo25)|((with_reducible refine gate_callee (f:=47) rfl ?_);refine kgl (some 15) rfl rfl Tryz.func47 #[.slice Ao25 t682.length co25,.bool false] rfl ?_;(with_reducible refine(whole_signed.calls (fun k_=>k_≠gb664) _ _ t682 false t685 t688 _ ?side1 A18.out).mono ?_);(case side1=>exact HO684.out);rintro e w26 ⟨v686,rfl,ho0,hb⟩;refine⟨_,rfl,?_⟩;replace HO681:=krb HO681 hb;replace HO684:=kvb HO684 hb;have HO687:=Aside0.mk (Kd.V_lower (Kd.V_mono (ok':=fun k_=>k_≠gb664) ho0 (fun k_ hk_=>Or.elim hk_ (fun hs_=>hs_) (kfb BK664))) (below_size (khu HB.out)));replace BK664:=kbb BK664 hb;replace HB:=kbs HB hb;(try clear hb);(try clear hb2);(try clear hk);(try clear hi);(try clear ho0);obtain⟨Ao27,co27,eo27⟩:=Kd.V_slice HO687.out;subst eo27)|((with_reducible refine gate_callee (f:=60) rfl ?_);refine kgl (some 16) rfl rfl Tryz.func60 #[.agg #[.slice Ao27 t685.length co27,.bool t688]] rfl ?_;(with_reducible refine(whole_number_out.calls _ _ t685 t688 t689 t690 _ ?side1 ?side2 A19.out).mono ?_);(case side1=>repeat (first|exact(Kd.V_reads' HO687.out).2.2|(with_reducible refine Kd.C_alloc ?_ _)|(with_reducible refine Kd.C_drewN ?_ _)|(with_reducible refine Kd.C_drew ?_)));(case side2=>exact(Kd.V_reads' HO687.out).2.1);rintro e w28 ⟨v691,rfl,ho0,hb⟩;refine⟨_,rfl,?_⟩;replace HO684:=Aside0.mk (Kd.V_elder' (kvu HO684.out) (Kd.R_base ho0) hb);replace HO687:=Aside0.mk (Kd.V_elder' (kvu HO687.out) (Kd.R_base ho0) hb);have HO692:=Aside0.mk (Kd.R_lower (Kd.R_new' ho0 (Kd.R_lt (kru HO681.out))) (below_size (khu HB.out)));replace HO681:=Aside0.mk (Kd.R_elder' (kru HO681.out) (Kd.R_base ho0) hb);replace BK664:=kbb BK664 hb;replace HB:=kbs HB hb;(try clear hb);(try clear hb2);(try clear hk);(try clear hi);(try clear ho0);have hcz29_0:w28.cell? ⟨gb664,0,none⟩=some (.bool false):=(blk_cell BK664.out 0).trans rfl;have hcz29_1:w28.cell? ⟨gb664,1,none⟩=some (.slice none 0 0):=(blk_cell BK664.out 1).trans rfl;have hfz29_0:=blk_frozen BK664.out 0;have hfz29_1:=blk_frozen BK664.out 1;obtain⟨Ao30,co30,eo30⟩:=Kd.R_slice HO692.out;subst eo30))
 refine bodyPost_ret (results_cell_row rfl _ _ gb664 26 #[.bool t689,.slice Ao30 t690.length co30] (0,0) _ rfl (kpu #[.bool t689,.slice none 0 0] 1 (kpu #[.bool false,.slice none 0 0] 0 (kbu BK664.out))) Tryz.underlying26 rfl (by kernel_rfl)) rfl ?_
 exact⟨_,by first|rfl|(simp[*,errW_none,errW_some]<;>rfl),by(with_reducible repeat (first|apply Kd.R_alloc|apply Kd.R_drewN|apply Kd.R_drew));exact Kd.R_mono (Kd.R_far (p:=⟨gb664,1,none⟩) (Kd.R_far (p:=⟨gb664,0,none⟩) (Kd.R_types HO692.out BK664.out (by decide)) (fun _ hk=>hk.2) (.bool t689)) (fun _ hk=>hk.2) (.slice Ao30 t690.length co30)) (fun _ hk=>trivial),by repeat (first|(with_reducible first|exact HB.out|apply below_alloc|apply pw_below_drewN|apply below_drew1|refine below_set ?_ GE664.out)|exact HB.out)⟩
end Go.Proofs.YtikencoikigllaaGreatDoor.PRy
namespace Go.Proofs.YtikencoikigllaaGreatDoor.PRy
open Go.RowKit Go.Proofs.YtikencoikigllaaGreatDoorW.PrintWords Go.Proofs.YtikencoikigllaaGreatDoorW.PrintLast Go.Proofs.YtikencoikigllaaGreatDoorW.PrintMore
open Go.Proofs.YtikencoikigllaaGreatDoor.Mine
attribute [local go_sem] max2_int min2_int max_two min_two max_three min_three max_four min_four
mutual
def whole_Gcd.l0:Nat→List (S26)→List (S26)→Int→Int→Option (Bool×List Int×Int)
 | 0,_,_,_,_=>none
 | k+1,x0,x12,x13,x14=>if x14<x13 then(if 0≤x14 then(if x14<(x12.length:Int) then((whole_of.f k ((rd_T26 x12 x14).f0) ((rd_T26 x12 x14).f1)).bind fun bt696=>((whole_number_long.f bt696.1 bt696.2).bind fun t700=>(if t700=true then(none) else(whole_Gcd.l0 k x0 x12 x13 (wrap64 (x14+1)))))) else(none)) else(none)) else(whole_Gcd.l1 k ([]:List Int) x0 (x0.length:Int) 0)
def whole_Gcd.l1:Nat→List Int→List (S26)→Int→Int→Option (Bool×List Int×Int)
 | 0,_,_,_,_=>none
 | k+1,x6,x23,x24,x25=>if x25<x24 then(if 0≤x25 then(if x25<(x23.length:Int) then((whole_of.f k ((rd_T26 x23 x25).f0) ((rd_T26 x23 x25).f1)).bind fun bt712=>(whole_Gcd.l2 k x6 bt712.1 x23 x24 x25)) else(none)) else(none)) else((whole_signed.f x6 false).bind fun bt701=>((whole_number_told.f bt701.1 bt701.2).bind fun bt705=>(some (bt705.1,bt705.2.1,bt705.2.2))))
def whole_Gcd.l2:Nat→List Int→List Int→List (S26)→Int→Int→Option (Bool×List Int×Int)
 | 0,_,_,_,_,_=>none
 | k+1,x6,x9,x23,x24,x25=>(whole_amount_null.f x9).bind fun t716=>(if t716=true then(whole_Gcd.l1 k x6 x23 x24 (wrap64 (x25+1))) else((whole_amount_quo.f k x6 x9).bind fun bt717=>(whole_Gcd.l2 k x9 bt717.2 x23 x24 x25)))
end
def whole_Gcd.f (k:Nat) (l0:List (S26)):Option (Bool×List Int×Int):=whole_Gcd.l0 k l0 l0 (l0.length:Int) 0
theorem whole_Gcd.calls (k:Nat) (A0:Option Addr) (c0:Nat) (l0:List (S26)) (r1:Bool) (r2:List Int) (r3:Int) (w:World) (hr0:Kd.C k26 w A0 l0.length l0) (hc0:l0.length≤c0) (h:whole_Gcd.f k l0=some (r1,r2,r3)) :
  Calls Tryz.prog 132 #[.slice A0 l0.length c0] w fun e w'=>∃v1_:Value,e=.returned (.tuple #[.agg #[.bool r1,v1_],.int .i64 r3])∧Kd.R (Kd.int .u64) 72 w' w.heap.size (fun _=>True) v1_ r2∧Below w.heap.size w w':=by
 have hu26:=Tryz.underlying26
 have hu80:=Tryz.underlying80
 have hfd80_0:∀(v0_ v1_:Value) (W_:World),(Instr.field 80 (.agg #[v0_,v1_]) 0).run Tryz.prog W_=.ok (v0_) W_:=fun _ _ _=>by kernel_rfl
 have HR0:=Aside0.mk hr0
 have HC0:=Aside0.mk hc0
 clear hr0 hc0
 have HB:=Aside0.mk (Below.refl w.heap.size w)
 have H:(whole_Gcd.l0 k l0 l0 (l0.length:Int) 0)=some (r1,r2,r3):=h
 clear h
 have H':=Aside0.mk H
 clear H
 go_enter Tryz.func132,Tryz.ntmps132
 go_wp2_with (first|(refine gd 2 rfl ?_;refine kbe 2 #[.bool false,.slice none 0 0] 26 ?_;intro gb693 hg w2 hbox hb;have BK693:=Aside0.mk (hbox);have GW693:=kbz hg HB;have GE693:=kbz hg HB;replace HB:=kbs HB hb;clear hb hbox hg))
 go_loopg [14] k (fun kq v14 w'=>∃(x14_1:Int) (x694000_1:Bool),v14=.int .i64 x14_1∧Aside0 (whole_Gcd.l0 kq l0 l0 (l0.length:Int) x14_1=some (r1,r2,r3))∧Aside0 (kq≤k)∧Aside0 (w'.heap[gb693]? = some (.cells #[.bool x694000_1,(.slice none 0 0)] 26 (0,0)))∧Aside0 (Below w.heap.size w w'))
 case atStart=>exact⟨(0),(false),(by first|rfl|(simp;done)|(simp[*];done)),H',⟨Nat.le_refl _⟩,⟨by(with_reducible repeat (first|refine blk_drewN ?_ _|refine blk_drew ?_|refine blk_alloc ?_ _));exact BK693.out⟩,⟨by repeat (first|(with_reducible first|exact HB.out|apply below_alloc|apply pw_below_drewN|apply below_drew1|refine below_set ?_ GE693.out)|exact HB.out)⟩⟩
 case round=>
  clear H'
  try clear c1
  try clear p2
  obtain⟨x14_1,x694000_1,rfl,HA,HK1,BK693,HB⟩:=hrel
  cases gk with
  | zero=>exact absurd HA.out (by simp[whole_Gcd.l0])
  | succ k1=>
   have H:=HA.out
   clear HA
   simp only[whole_Gcd.l0]at H
   by_cases c3:x14_1<(l0.length:Int)
   ·rw [if_pos c3]at H
    have c3b0:decide (x14_1<(l0.length:Int))=true:=decide_eq_true c3
    clear c3
    by_cases c4:0≤x14_1
    ·rw[if_pos c4]at H
     have c4b0:decide (0≤x14_1)=true:=decide_eq_true c4
     clear c4
     by_cases c5:x14_1<(l0.length:Int)
     ·rw[if_pos c5]at H
      have c5b0:decide (x14_1<(l0.length:Int))=true:=decide_eq_true c5
      clear c5
      replace H:=Option.bind_eq_some_iff.mp H
      obtain⟨⟨t696,t699⟩,A60,H⟩:=H
      replace H:((whole_number_long.f t696 t699).bind fun t700=>(if t700=true then(none) else(whole_Gcd.l0 k1 l0 l0 (l0.length:Int) (wrap64 (x14_1+1)))))=some (r1,r2,r3):=H
      have A6:=Aside0.mk A60
      clear A60
      replace H:=Option.bind_eq_some_iff.mp H
      obtain⟨t700,A70,H⟩:=H
      replace H:(if t700=true then(none) else(whole_Gcd.l0 k1 l0 l0 (l0.length:Int) (wrap64 (x14_1+1))))=some (r1,r2,r3):=H
      have A7:=Aside0.mk A70
      clear A70
      by_cases c8:t700=true
      ·subst c8
       have H1:(none)=some (r1,r2,r3):=by rw[if_pos rfl]at H;exact H
       clear H
       have H:=H1
       clear H1
       exact absurd H (by simp)
      replace c8:=Bool.eq_false_iff.mpr c8
      subst c8
      have H1:(whole_Gcd.l0 k1 l0 l0 (l0.length:Int) (wrap64 (x14_1+1)))=some (r1,r2,r3):=by rw[if_neg (show ¬(false=true) by decide)]at H;exact H
      clear H
      have H:=H1
      clear H1
      have H':=Aside0.mk H
      clear H
      have p694:0≤(x14_1:Int):=of_decide_eq_true ‹_›
      have q694:x14_1<(l0.length:Int):=of_decide_eq_true ‹_›
      obtain⟨ad694,A694_1,c694_1,e694,hx694_0,hx694_1,hl694_1,hi694_1⟩:=at_T26 HR0.out x14_1 p694 q694
      cases e694
      replace hx694_0:=(HB.out.cell (World.block_lt_of_cell? w _ hx694_0)).trans hx694_0
      replace hx694_1:=(HB.out.cell (World.block_lt_of_cell? w _ hx694_1)).trans hx694_1
      have HR694_1:=Aside0.mk hi694_1
      have HC694_1:=Aside0.mk hl694_1
      clear hi694_1 hl694_1
      replace p694:=eq_true p694
      replace q694:=eq_true q694
      go_wp2_with (first|(refine gd 5 rfl ?_;refine kbe 5 #[.bool false,.slice none 0 0] 26 ?_;intro gb695 hg w9 hbox hb;have BK695:=Aside0.mk (hbox);have GW695:=kbz hg HB;have GE695:=kbz hg HB;replace HB:=kbs HB hb;have NB693_695:=knl hg BK693;have NB695_693:=kng hg BK693;replace BK693:=kbb BK693 hb;clear hb hbox hg;have hnb10:=NB695_693.out;have hnc10:=NB693_695.out;have hcz11_0:w9.cell? ⟨gb695,0,none⟩=some (.bool false):=(blk_cell BK695.out 0).trans rfl;have hcz11_1:w9.cell? ⟨gb695,1,none⟩=some (.slice none 0 0):=(blk_cell BK695.out 1).trans rfl;have hfz11_0:=blk_frozen BK695.out 0;have hfz11_1:=blk_frozen BK695.out 1)|((with_reducible refine gate_store (t:=26) (p:=5) rfl ?_);refine store_event (t:=26) (p:=5) (v:=?vo_w12) (w1:=((w9.setCell ⟨gb695,0,none⟩ (.bool ((rd_T26 l0 x14_1).f0))).setCell ⟨gb695,1,none⟩ (.slice A694_1 ((rd_T26 l0 x14_1).f1).length c694_1))) ?hg ?ho ?hn ?hr ?_;(case ho=>rfl);(case hg=>rfl);(case hn=>rfl);(case hr=>first|(go_simp;done)|(go_simp;rfl));intro w12 hw;have n0_:Aside0 (w12.heap[gb693]? = some (.cells #[.bool x694000_1,.slice none 0 0] 26 (0,0))):=⟨(by rw[hw];exact(kfa NB693_695 (kfa NB693_695 (kbu BK693.out))))⟩;have n1_:Aside0 (w12.heap[gb695]? = some (.cells #[.bool ((rd_T26 l0 x14_1).f0),.slice A694_1 ((rd_T26 l0 x14_1).f1).length c694_1] 26 (0,0))):=⟨(by rw[hw];exact(kpu #[.bool ((rd_T26 l0 x14_1).f0),.slice none 0 0] 1 (kpu #[.bool false,.slice none 0 0] 0 (kbu BK695.out))))⟩;have n2_:Aside0 (Below w.heap.size w w12):=⟨(by rw[hw];exact(by repeat (first|(with_reducible first|exact HB.out|apply below_alloc|apply pw_below_drewN|apply below_drew1|refine below_set ?_ GE693.out|refine below_set ?_ GE695.out)|exact HB.out)))⟩;clear hw;clear BK693;clear BK695;clear HB;have BK693:=n0_;have BK695:=n1_;have HB:=n2_;clear n0_ n1_ n2_;have hcz13_0:w12.cell? ⟨gb695,0,none⟩=some (.bool ((rd_T26 l0 x14_1).f0)):=(blk_cell BK695.out 0).trans rfl;have hcz13_1:w12.cell? ⟨gb695,1,none⟩=some (.slice A694_1 ((rd_T26 l0 x14_1).f1).length c694_1):=(blk_cell BK695.out 1).trans rfl;have hfz13_0:=blk_frozen BK695.out 0;have hfz13_1:=blk_frozen BK695.out 1)|((with_reducible refine gate_callee (f:=52) rfl ?_);refine kgl (some 19) rfl rfl Tryz.func52 #[.agg #[.bool ((rd_T26 l0 x14_1).f0),.slice A694_1 ((rd_T26 l0 x14_1).f1).length c694_1]] rfl ?_;(with_reducible refine(whole_of.calls k1 ((rd_T26 l0 x14_1).f0) (fun k_=>k_<w.heap.size) _ _ ((rd_T26 l0 x14_1).f1) t696 t699 _ ?side1 A6.out).mono ?_);(case side1=>exact Kd.V_mk HC694_1.out (Kd.F_below (Kd.C_F (Kd.heap_int .u64) HR694_1.out) (khu HB.out)));rintro e w14 ⟨v697,rfl,ho0,hb⟩;refine⟨_,rfl,?_⟩;have HO698:=Aside0.mk (Kd.V_lower (Kd.V_mono (ok':=fun k_=>k_≠gb693∧k_≠gb695) ho0 (fun k_ hk_=>⟨koe GW693 BK693 hk_,koe GW695 BK695 hk_⟩)) (below_size (khu HB.out)));replace BK693:=kbb BK693 hb;replace BK695:=kbb BK695 hb;replace HB:=kbs HB hb;(try clear hb);(try clear hb2);(try clear hk);(try clear hi);(try clear ho0);obtain⟨Ao15,co15,eo15⟩:=Kd.V_slice HO698.out;subst eo15)|((with_reducible refine gate_callee (f:=53) rfl ?_);refine kgl (some 20) rfl rfl Tryz.func53 #[.agg #[.slice Ao15 t696.length co15,.bool t699]] rfl ?_;(with_reducible refine(whole_number_long.calls _ _ t696 t699 false _ ?side1 ?side2 A7.out).mono ?_);(case side1=>repeat (first|exact(Kd.V_reads' HO698.out).2.2|(with_reducible refine Kd.C_alloc ?_ _)|(with_reducible refine Kd.C_drewN ?_ _)|(with_reducible refine Kd.C_drew ?_)));(case side2=>exact(Kd.V_reads' HO698.out).2.1);rintro e w16 ⟨rfl,hb⟩;refine⟨_,rfl,?_⟩;replace HO698:=kvb HO698 hb;replace BK693:=kbb BK693 hb;replace BK695:=kbb BK695 hb;replace HB:=kbs HB hb;(try clear hb);(try clear hb2);(try clear hk);(try clear hi)))
      go_roundg k1
      case measure=>have:=HK1.out;omega
      case rel=>exact⟨(wrap64 (x14_1+1)),(x694000_1),(by first|rfl|(simp;done)|(simp[*];done)),H',⟨by have:=HK1.out;omega⟩,⟨by(with_reducible repeat (first|refine blk_drewN ?_ _|refine blk_drew ?_|refine blk_alloc ?_ _));exact BK693.out⟩,⟨by repeat (first|(with_reducible first|exact HB.out|apply below_alloc|apply pw_below_drewN|apply below_drew1|refine below_set ?_ GE693.out|refine below_set ?_ GE695.out)|exact HB.out)⟩⟩
     rw[if_neg c5]at H
     exact absurd H (by simp)
    rw[if_neg c4]at H
    exact absurd H (by simp)
   rw[if_neg c3]at H
   have c3b0:decide (x14_1<(l0.length:Int))=false:=decide_eq_false c3
   clear c3
   have H':=Aside0.mk H
   clear H
   go_wp2
   go_loopg [6,25] k1 (fun kq v6 v25 w'=>∃(x6_2:List Int) (x25_2:Int),v25=.int .i64 x25_2∧Aside0 (whole_Gcd.l1 kq x6_2 l0 (l0.length:Int) x25_2=some (r1,r2,r3))∧Aside0 (kq≤k1)∧Aside0 (Kd.V (Kd.int .u64) 72 w' w.heap.size (fun k_=>k_≠gb693) v6 x6_2)∧Aside0 (w'.heap[gb693]? = some (.cells #[.bool x694000_1,(.slice none 0 0)] 26 (0,0)))∧Aside0 (Below w.heap.size w w'))
   case atStart=>exact⟨(([]:List Int)),(0),(by first|rfl|(simp;done)|(simp[*];done)),H',⟨Nat.le_refl _⟩,⟨Kd.V_nil _ _ _ _ _⟩,⟨by(with_reducible repeat (first|refine blk_drewN ?_ _|refine blk_drew ?_|refine blk_alloc ?_ _));exact BK693.out⟩,⟨by repeat (first|(with_reducible first|exact HB.out|apply below_alloc|apply pw_below_drewN|apply below_drew1|refine below_set ?_ GE693.out)|exact HB.out)⟩⟩
   case round=>
    clear H'
    try clear c1
    try clear p2
    try clear c3
    try clear c3b0
    try clear c4
    try clear c4b0
    try clear c5
    try clear c5b0
    try clear c6
    try clear p6
    try clear q6
    try clear hx6
    try clear c8
    try clear c10
    try clear c13
    try clear hcz11_0
    try clear hcz11_1
    try clear hcz13_0
    try clear hcz13_1
    try clear hfz11_0
    try clear hfz11_1
    try clear hfz13_0
    try clear hfz13_1
    try clear hx694_0
    try clear hx694_1
    try clear p2
    try clear p694
    try clear q694
    obtain⟨x6_2,x25_2,rfl,HA,HK2,HO_6,BK693,HB⟩:=hrel
    cases gk with
    | zero=>exact absurd HA.out (by simp[whole_Gcd.l1])
    | succ k2=>
     have H:=HA.out
     clear HA
     simp only[whole_Gcd.l1]at H
     by_cases c17:x25_2<(l0.length:Int)
     ·rw [if_pos c17]at H
      have c17b0:decide (x25_2<(l0.length:Int))=true:=decide_eq_true c17
      clear c17
      by_cases c18:0≤x25_2
      ·rw [if_pos c18]at H
       have c18b0:decide (0≤x25_2)=true:=decide_eq_true c18
       clear c18
       by_cases c19:x25_2<(l0.length:Int)
       ·rw [if_pos c19]at H
        have c19b0:decide (x25_2<(l0.length:Int))=true:=decide_eq_true c19
        clear c19
        replace H:=Option.bind_eq_some_iff.mp H
        obtain⟨⟨t712,t715⟩,A200,H⟩:=H
        replace H:(whole_Gcd.l2 k2 x6_2 t712 l0 (l0.length:Int) x25_2)=some (r1,r2,r3):=H
        have A20:=Aside0.mk A200
        clear A200
        have H':=Aside0.mk H
        clear H
        have p710:0≤(x25_2:Int):=of_decide_eq_true ‹_›
        have q710:x25_2<(l0.length:Int):=of_decide_eq_true ‹_›
        obtain⟨ad710,A710_1,c710_1,e710,hx710_0,hx710_1,hl710_1,hi710_1⟩:=at_T26 HR0.out x25_2 p710 q710
        cases e710
        replace hx710_0:=(HB.out.cell (World.block_lt_of_cell? w _ hx710_0)).trans hx710_0
        replace hx710_1:=(HB.out.cell (World.block_lt_of_cell? w _ hx710_1)).trans hx710_1
        have HR710_1:=Aside0.mk hi710_1
        have HC710_1:=Aside0.mk hl710_1
        clear hi710_1 hl710_1
        replace p710:=eq_true p710
        replace q710:=eq_true q710
        go_wp2_with (first|(refine gd 8 rfl ?_;refine kbe 8 #[.bool false,.slice none 0 0] 26 ?_;intro gb711 hg w21 hbox hb;replace HO_6:=Aside0.mk (Kd.V_below (Kd.V_elderB (kvu HO_6.out) gb711 (Nat.le_of_eq hg.symm)) hb);have BK711:=Aside0.mk (hbox);have GW711:=kbz hg HB;have GE711:=kbz hg HB;replace HB:=kbs HB hb;have NB693_711:=knl hg BK693;have NB711_693:=kng hg BK693;replace BK693:=kbb BK693 hb;clear hb hbox hg;have hnb22:=NB711_693.out;have hnc22:=NB693_711.out;have hcz23_0:w21.cell? ⟨gb711,0,none⟩=some (.bool false):=(blk_cell BK711.out 0).trans rfl;have hcz23_1:w21.cell? ⟨gb711,1,none⟩=some (.slice none 0 0):=(blk_cell BK711.out 1).trans rfl;have hfz23_0:=blk_frozen BK711.out 0;have hfz23_1:=blk_frozen BK711.out 1)|((with_reducible refine gate_store (t:=26) (p:=8) rfl ?_);refine store_event (t:=26) (p:=8) (v:=?vo_w24) (w1:=((w21.setCell ⟨gb711,0,none⟩ (.bool ((rd_T26 l0 x25_2).f0))).setCell ⟨gb711,1,none⟩ (.slice A710_1 ((rd_T26 l0 x25_2).f1).length c710_1))) ?hg ?ho ?hn ?hr ?_;(case ho=>rfl);(case hg=>rfl);(case hn=>rfl);(case hr=>first|(go_simp;done)|(go_simp;rfl));intro w24 hw;have n0_:Aside0 (Kd.V (Kd.int .u64) 72 w24 w.heap.size (fun k_=>k_≠gb693∧k_≠gb711) u6 x6_2):=⟨(by rw[hw];exact(by(with_reducible repeat (first|apply Kd.V_alloc|apply Kd.V_drewN|apply Kd.V_drew));exact Kd.V_mono (Kd.V_far (p:=⟨gb711,1,none⟩) (Kd.V_far (p:=⟨gb711,0,none⟩) (Kd.V_mono HO_6.out (fun k_ hk=>(⟨hk,hk.2⟩:_∧k_≠gb711))) (fun _ hk=>hk.2) (.bool ((rd_T26 l0 x25_2).f0))) (fun _ hk=>hk.2) (.slice A710_1 ((rd_T26 l0 x25_2).f1).length c710_1)) (fun _ hk=>⟨hk.1.1,hk.1.2⟩)))⟩;have n1_:Aside0 (w24.heap[gb693]? = some (.cells #[.bool x694000_1,.slice none 0 0] 26 (0,0))):=⟨(by rw[hw];exact(kfa NB693_711 (kfa NB693_711 (kbu BK693.out))))⟩;have n2_:Aside0 (w24.heap[gb711]? = some (.cells #[.bool ((rd_T26 l0 x25_2).f0),.slice A710_1 ((rd_T26 l0 x25_2).f1).length c710_1] 26 (0,0))):=⟨(by rw[hw];exact(kpu #[.bool ((rd_T26 l0 x25_2).f0),.slice none 0 0] 1 (kpu #[.bool false,.slice none 0 0] 0 (kbu BK711.out))))⟩;have n3_:Aside0 (Below w.heap.size w w24):=⟨(by rw[hw];exact(by repeat (first|(with_reducible first|exact HB.out|apply below_alloc|apply pw_below_drewN|apply below_drew1|refine below_set ?_ GE693.out|refine below_set ?_ GE711.out)|exact HB.out)))⟩;clear hw;clear HO_6;clear BK693;clear BK711;clear HB;have HO_6:=n0_;have BK693:=n1_;have BK711:=n2_;have HB:=n3_;clear n0_ n1_ n2_ n3_;have hcz25_0:w24.cell? ⟨gb711,0,none⟩=some (.bool ((rd_T26 l0 x25_2).f0)):=(blk_cell BK711.out 0).trans rfl;have hcz25_1:w24.cell? ⟨gb711,1,none⟩=some (.slice A710_1 ((rd_T26 l0 x25_2).f1).length c710_1):=(blk_cell BK711.out 1).trans rfl;have hfz25_0:=blk_frozen BK711.out 0;have hfz25_1:=blk_frozen BK711.out 1)|((with_reducible refine gate_callee (f:=52) rfl ?_);refine kgl (some 30) rfl rfl Tryz.func52 #[.agg #[.bool ((rd_T26 l0 x25_2).f0),.slice A710_1 ((rd_T26 l0 x25_2).f1).length c710_1]] rfl ?_;(with_reducible refine(whole_of.calls k2 ((rd_T26 l0 x25_2).f0) (fun k_=>k_<w.heap.size) _ _ ((rd_T26 l0 x25_2).f1) t712 t715 _ ?side1 A20.out).mono ?_);(case side1=>exact Kd.V_mk HC710_1.out (Kd.F_below (Kd.C_F (Kd.heap_int .u64) HR710_1.out) (khu HB.out)));rintro e w26 ⟨v713,rfl,ho0,hb⟩;refine⟨_,rfl,?_⟩;replace HO_6:=kvb HO_6 hb;have HO714:=Aside0.mk (Kd.V_lower (Kd.V_mono (ok':=fun k_=>k_≠gb693∧k_≠gb711) ho0 (fun k_ hk_=>⟨koe GW693 BK693 hk_,koe GW711 BK711 hk_⟩)) (below_size (khu HB.out)));replace BK693:=kbb BK693 hb;replace BK711:=kbb BK711 hb;replace HB:=kbs HB hb;(try clear hb);(try clear hb2);(try clear hk);(try clear hi);(try clear ho0)))
        go_loopg [6,9] k2 (fun kq v6 v9 w'=>∃(x6_3:List Int) (x9_3:List Int),Aside0 (whole_Gcd.l2 kq x6_3 x9_3 l0 (l0.length:Int) x25_2=some (r1,r2,r3))∧Aside0 (kq≤k2)∧Aside0 (Kd.V (Kd.int .u64) 72 w' w.heap.size (fun k_=>k_≠gb693∧k_≠gb711) v6 x6_3)∧Aside0 (Kd.V (Kd.int .u64) 72 w' w.heap.size (fun k_=>k_≠gb693∧k_≠gb711) v9 x9_3)∧Aside0 (w'.heap[gb693]? = some (.cells #[.bool x694000_1,(.slice none 0 0)] 26 (0,0)))∧Aside0 (w'.heap[gb711]? = some (.cells #[.bool ((rd_T26 l0 x25_2).f0),(.slice A710_1 ((rd_T26 l0 x25_2).f1).length c710_1)] 26 (0,0)))∧Aside0 (Below w.heap.size w w'))
        case atStart=>exact⟨(x6_2),(t712),H',⟨Nat.le_refl _⟩,⟨kvu HO_6.out⟩,⟨kvu HO714.out⟩,⟨by(with_reducible repeat (first|refine blk_drewN ?_ _|refine blk_drew ?_|refine blk_alloc ?_ _));exact BK693.out⟩,⟨by(with_reducible repeat (first|refine blk_drewN ?_ _|refine blk_drew ?_|refine blk_alloc ?_ _));exact BK711.out⟩,⟨by repeat (first|(with_reducible first|exact HB.out|apply below_alloc|apply pw_below_drewN|apply below_drew1|refine below_set ?_ GE693.out|refine below_set ?_ GE711.out)|exact HB.out)⟩⟩
        case round=>
         clear H'
         try clear c1
         try clear c2
         try clear p2
         try clear c3
         try clear c3b0
         try clear c4
         try clear c4b0
         try clear c5
         try clear c5b0
         try clear c6
         try clear p6
         try clear q6
         try clear hx6
         try clear c7
         try clear p7
         try clear q7
         try clear hx7
         try clear c8
         try clear c10
         try clear c13
         try clear c17
         try clear c17b0
         try clear c18
         try clear c18b0
         try clear c19
         try clear c19b0
         try clear c22
         try clear hcz11_0
         try clear hcz11_1
         try clear hcz13_0
         try clear hcz13_1
         try clear hcz23_0
         try clear hcz23_1
         try clear hcz25_0
         try clear hcz25_1
         try clear hfz11_0
         try clear hfz11_1
         try clear hfz13_0
         try clear hfz13_1
         try clear hfz23_0
         try clear hfz23_1
         try clear hfz25_0
         try clear hfz25_1
         try clear hx694_0
         try clear hx694_1
         try clear hx710_0
         try clear hx710_1
         try clear p2
         try clear p6
         try clear p694
         try clear p710
         try clear q6
         try clear q694
         try clear q710
         obtain⟨x6_3,x9_3,HA,HK3,HO_6,HO_9,BK693,BK711,HB⟩:=hrel
         cases gk with
         | zero=>exact absurd HA.out (by simp[whole_Gcd.l2])
         | succ k3=>
          have H:=HA.out
          clear HA
          simp only[whole_Gcd.l2]at H
          replace H:=Option.bind_eq_some_iff.mp H
          obtain⟨t716,A270,H⟩:=H
          replace H:(if t716=true then(whole_Gcd.l1 k3 x6_3 l0 (l0.length:Int) (wrap64 (x25_2+1))) else((whole_amount_quo.f k3 x6_3 x9_3).bind fun bt717=>(whole_Gcd.l2 k3 x9_3 bt717.2 l0 (l0.length:Int) x25_2)))=some (r1,r2,r3):=H
          have A27:=Aside0.mk A270
          clear A270
          by_cases c28:t716=true
          ·subst c28
           have H1:(whole_Gcd.l1 k3 x6_3 l0 (l0.length:Int) (wrap64 (x25_2+1)))=some (r1,r2,r3):=by rw[if_pos rfl]at H;exact H
           clear H
           have H:=H1
           clear H1
           have H':=Aside0.mk H
           clear H
           obtain⟨Ao29,co29,eo29⟩:=Kd.V_slice HO_9.out
           subst eo29
           go_wp2_with (first|((with_reducible refine gate_callee (f:=54) rfl ?_);refine kgl (some 33) rfl rfl Tryz.func54 #[.slice Ao29 x9_3.length co29] rfl ?_;(with_reducible refine(whole_amount_null.calls _ _ x9_3 true _ ?side1 ?side2 A27.out).mono ?_);(case side1=>repeat (first|exact(Kd.V_reads' HO_9.out).2.2|(with_reducible refine Kd.C_alloc ?_ _)|(with_reducible refine Kd.C_drewN ?_ _)|(with_reducible refine Kd.C_drew ?_)));(case side2=>exact(Kd.V_reads' HO_9.out).2.1);rintro e w' ⟨rfl,⟨nd,rfl⟩⟩;refine⟨_,rfl,?_⟩))
           go_roundg k3
           case measure=>have:=HK1.out;have:=HK2.out;have:=HK3.out;omega
           case rel=>exact⟨(x6_3),(wrap64 (x25_2+1)),(by first|rfl|(simp;done)|(simp[*];done)),H',⟨by have:=HK1.out;have:=HK2.out;have:=HK3.out;omega⟩,⟨by(with_reducible repeat (first|apply Kd.V_alloc|apply Kd.V_drewN|apply Kd.V_drew));exact Kd.V_mono HO_6.out (fun _ hk=>hk.1)⟩,⟨by(with_reducible repeat (first|refine blk_drewN ?_ _|refine blk_drew ?_|refine blk_alloc ?_ _));exact BK693.out⟩,⟨by repeat (first|(with_reducible first|exact HB.out|apply below_alloc|apply pw_below_drewN|apply below_drew1|refine below_set ?_ GE693.out|refine below_set ?_ GE711.out)|exact HB.out)⟩⟩
          replace c28:=Bool.eq_false_iff.mpr c28
          subst c28
          have H1:((whole_amount_quo.f k3 x6_3 x9_3).bind fun bt717=>(whole_Gcd.l2 k3 x9_3 bt717.2 l0 (l0.length:Int) x25_2))=some (r1,r2,r3):=by rw[if_neg (show ¬(false=true) by decide)]at H;exact H
          clear H
          have H:=H1
          clear H1
          replace H:=Option.bind_eq_some_iff.mp H
          obtain⟨⟨t717,t720⟩,A300,H⟩:=H
          replace H:(whole_Gcd.l2 k3 x9_3 t720 l0 (l0.length:Int) x25_2)=some (r1,r2,r3):=H
          have A30:=Aside0.mk A300
          clear A300
          have H':=Aside0.mk H
          clear H
          obtain⟨Ao31,co31,eo31⟩:=Kd.V_slice HO_9.out
          subst eo31
          go_wp2_with (first|((with_reducible refine gate_callee (f:=54) rfl ?_);refine kgl (some 33) rfl rfl Tryz.func54 #[.slice Ao31 x9_3.length co31] rfl ?_;(with_reducible refine(whole_amount_null.calls _ _ x9_3 false _ ?side1 ?side2 A27.out).mono ?_);(case side1=>repeat (first|exact(Kd.V_reads' HO_9.out).2.2|(with_reducible refine Kd.C_alloc ?_ _)|(with_reducible refine Kd.C_drewN ?_ _)|(with_reducible refine Kd.C_drew ?_)));(case side2=>exact(Kd.V_reads' HO_9.out).2.1);rintro e w' ⟨rfl,⟨nd,rfl⟩⟩;refine⟨_,rfl,?_⟩;obtain⟨Ao32,co32,eo32⟩:=Kd.V_slice HO_6.out;subst eo32)|((with_reducible refine gate_callee (f:=168) rfl ?_);refine kgl (some 38) rfl rfl Tryz.func168 #[.slice Ao32 x6_3.length co32,.slice Ao31 x9_3.length co31] rfl ?_;(with_reducible refine(whole_amount_quo.calls k3 (fun k_=>(k_≠gb693∧k_≠gb711)) _ _ x6_3 _ _ x9_3 t717 t720 _ ?side1 ?side2 ?side3 A30.out).mono ?_);(case side1=>exact HO_6.out);(case side2=>repeat (first|exact(Kd.V_reads' HO_9.out).2.2|(with_reducible refine Kd.C_alloc ?_ _)|(with_reducible refine Kd.C_drewN ?_ _)|(with_reducible refine Kd.C_drew ?_)));(case side3=>exact(Kd.V_reads' HO_9.out).2.1);rintro e w33 ⟨v718,v721,rfl,ho0,ho1,hb⟩;refine⟨_,rfl,?_⟩;replace HO_6:=kvb HO_6 hb;replace HO_9:=kvb HO_9 hb;have HO719:=Aside0.mk (Kd.V_lower (Kd.V_mono (ok':=fun k_=>k_≠gb693∧k_≠gb711) ho0 (fun k_ hk_=>⟨Or.elim hk_ (fun hs_=>hs_.1) (kfb BK693),Or.elim hk_ (fun hs_=>hs_.2) (kfb BK711)⟩)) (below_size (khu HB.out)));have HO722:=Aside0.mk (Kd.V_lower (Kd.V_mono (ok':=fun k_=>k_≠gb693∧k_≠gb711) ho1 (fun k_ hk_=>⟨Or.elim hk_ (fun hs_=>hs_.1) (kfb BK693),Or.elim hk_ (fun hs_=>hs_.2) (kfb BK711)⟩)) (below_size (khu HB.out)));replace BK693:=kbb BK693 hb;replace BK711:=kbb BK711 hb;replace HB:=kbs HB hb;(try clear hb);(try clear hb2);(try clear hk);(try clear hi);(try clear ho0);(try clear ho1)))
          go_roundg k3
          case measure=>have:=HK1.out;have:=HK2.out;have:=HK3.out;omega
          case rel=>exact⟨(x9_3),(t720),H',⟨by have:=HK1.out;have:=HK2.out;have:=HK3.out;omega⟩,⟨kvu HO_9.out⟩,⟨kvu HO722.out⟩,⟨by(with_reducible repeat (first|refine blk_drewN ?_ _|refine blk_drew ?_|refine blk_alloc ?_ _));exact BK693.out⟩,⟨by(with_reducible repeat (first|refine blk_drewN ?_ _|refine blk_drew ?_|refine blk_alloc ?_ _));exact BK711.out⟩,⟨by repeat (first|(with_reducible first|exact HB.out|apply below_alloc|apply pw_below_drewN|apply below_drew1|refine below_set ?_ GE693.out|refine below_set ?_ GE711.out)|exact HB.out)⟩⟩
       rw[if_neg c19]at H
       exact absurd H (by simp)
      rw[if_neg c18]at H
      exact absurd H (by simp)
     rw[if_neg c17]at H
     have c17b0:decide (x25_2<(l0.length:Int))=false:=decide_eq_false c17
     clear c17
     replace H:=Option.bind_eq_some_iff.mp H
     obtain⟨⟨t701,t704⟩,A340,H⟩:=H
     replace H:((whole_number_told.f t701 t704).bind fun bt705=>(some (bt705.1,bt705.2.1,bt705.2.2)))=some (r1,r2,r3):=H
     have A34:=Aside0.mk A340
     clear A340
     replace H:=Option.bind_eq_some_iff.mp H
     obtain⟨⟨t705,t706,t709⟩,A350,H⟩:=H
     replace H:(some (t705,t706,t709))=some (r1,r2,r3):=H
     have A35:=Aside0.mk A350
     clear A350
     simp only[Option.some.injEq,Prod.mk.injEq]at H
     obtain⟨rfl,rfl,rfl⟩:=H
     obtain⟨Ao36,co36,eo36⟩:=Kd.V_slice HO_6.out
     subst eo36
     go_wp2_with (first|((with_reducible refine gate_callee (f:=47) rfl ?_);refine kgl (some 45) rfl rfl Tryz.func47 #[.slice Ao36 x6_2.length co36,.bool false] rfl ?_;(with_reducible refine(whole_signed.calls (fun k_=>k_≠gb693) _ _ x6_2 false t701 t704 _ ?side1 A34.out).mono ?_);(case side1=>exact HO_6.out);rintro e w37 ⟨v702,rfl,ho0,hb⟩;refine⟨_,rfl,?_⟩;replace HO_6:=kvb HO_6 hb;have HO703:=Aside0.mk (Kd.V_lower (Kd.V_mono (ok':=fun k_=>k_≠gb693) ho0 (fun k_ hk_=>Or.elim hk_ (fun hs_=>hs_) (kfb BK693))) (below_size (khu HB.out)));replace BK693:=kbb BK693 hb;replace HB:=kbs HB hb;(try clear hb);(try clear hb2);(try clear hk);(try clear hi);(try clear ho0);obtain⟨Ao38,co38,eo38⟩:=Kd.V_slice HO703.out;subst eo38)|((with_reducible refine gate_callee (f:=48) rfl ?_);refine kgl (some 46) rfl rfl Tryz.func48 #[.agg #[.slice Ao38 t701.length co38,.bool t704]] rfl ?_;(with_reducible refine(whole_number_told.calls _ _ t701 t704 t705 t706 t709 _ ?side1 ?side2 A35.out).mono ?_);(case side1=>repeat (first|exact(Kd.V_reads' HO703.out).2.2|(with_reducible refine Kd.C_alloc ?_ _)|(with_reducible refine Kd.C_drewN ?_ _)|(with_reducible refine Kd.C_drew ?_)));(case side2=>exact(Kd.V_reads' HO703.out).2.1);rintro e w39 ⟨v707,rfl,ho0,hb⟩;refine⟨_,rfl,?_⟩;replace HO_6:=Aside0.mk (Kd.V_elder' (kvu HO_6.out) (Kd.R_base ho0) hb);replace HO703:=Aside0.mk (Kd.V_elder' (kvu HO703.out) (Kd.R_base ho0) hb);have HO708:=Aside0.mk (Kd.R_lower ho0 (below_size (khu HB.out)));replace BK693:=kbb BK693 hb;replace HB:=kbs HB hb;(try clear hb);(try clear hb2);(try clear hk);(try clear hi);(try clear ho0);have hcz40_0:w39.cell? ⟨gb693,0,none⟩=some (.bool x694000_1):=(blk_cell BK693.out 0).trans rfl;have hcz40_1:w39.cell? ⟨gb693,1,none⟩=some (.slice none 0 0):=(blk_cell BK693.out 1).trans rfl;have hfz40_0:=blk_frozen BK693.out 0;have hfz40_1:=blk_frozen BK693.out 1;obtain⟨Ao41,co41,eo41⟩:=Kd.R_slice HO708.out;subst eo41))
     refine bodyPost_ret (results_ct rfl _ _ gb693 26 #[.bool t705,.slice Ao41 t706.length co41] (0,0) _ rfl (kpu #[.bool t705,.slice none 0 0] 1 (kpu #[.bool x694000_1,.slice none 0 0] 0 (kbu BK693.out))) Tryz.underlying26 rfl (by kernel_rfl)) rfl ?_
     exact⟨_,by first|rfl|(simp[*,errW_none,errW_some]<;>rfl),by(with_reducible repeat (first|apply Kd.R_alloc|apply Kd.R_drewN|apply Kd.R_drew));exact Kd.R_mono (Kd.R_far (p:=⟨gb693,1,none⟩) (Kd.R_far (p:=⟨gb693,0,none⟩) (Kd.R_types HO708.out BK693.out (by decide)) (fun _ hk=>hk.2) (.bool t705)) (fun _ hk=>hk.2) (.slice Ao41 t706.length co41)) (fun _ hk=>trivial),by repeat (first|(with_reducible first|exact HB.out|apply below_alloc|apply pw_below_drewN|apply below_drew1|refine below_set ?_ GE693.out)|exact HB.out)⟩
end Go.Proofs.YtikencoikigllaaGreatDoor.PRy
namespace Go.Proofs.YtikencoikigllaaGreatDoor.PRy
open Go.RowKit Go.Proofs.YtikencoikigllaaGreatDoorW.PrintWords Go.Proofs.YtikencoikigllaaGreatDoorW.PrintLast Go.Proofs.YtikencoikigllaaGreatDoorW.PrintMore
open Go.Proofs.YtikencoikigllaaGreatDoor.Mine
attribute [local go_sem] max2_int min2_int max_two min_two max_three min_three max_four min_four
def whole_pair.j0:Nat→Bool→List Int→Bool→List Int→Bool→Option (Bool×List Int×Bool×List Int×Int)
 | 0,_,_,_,_,_=>none
 | k+1,x12,x724000,x724001,x725000,x725001=>if x12=true then(none) else((whole_number_out.f x724000 x724001).bind fun bt729=>((whole_number_out.f x725000 x725001).bind fun bt733=>(some (bt729.1,bt729.2,bt733.1,bt733.2,0))))
def whole_pair.f (k:Nat) (l0_0:List Int) (a0_1:Bool) (l1_0:List Int) (a1_1:Bool):Option (Bool×List Int×Bool×List Int×Int):=(whole_number_long.f l0_0 a0_1).bind fun t727=>(if t727=true then(whole_pair.j0 k true l0_0 a0_1 l1_0 a1_1) else((whole_number_long.f l1_0 a1_1).bind fun t728=>(whole_pair.j0 k t728 l0_0 a0_1 l1_0 a1_1)))
theorem whole_pair.calls (k:Nat) (A0_0:Option Addr) (c0_0:Nat) (l0_0:List Int) (a0_1:Bool) (A1_0:Option Addr) (c1_0:Nat) (l1_0:List Int) (a1_1:Bool) (r1:Bool) (r2:List Int) (r3:Bool) (r4:List Int) (r5:Int) (w:World) (hr0_0:Kd.C (Kd.int .u64) w A0_0 l0_0.length l0_0) (hc0_0:l0_0.length≤c0_0) (hr1_0:Kd.C (Kd.int .u64) w A1_0 l1_0.length l1_0) (hc1_0:l1_0.length≤c1_0) (h:whole_pair.f k l0_0 a0_1 l1_0 a1_1=some (r1,r2,r3,r4,r5)) :
  Calls Tryz.prog 102 #[.agg #[.slice A0_0 l0_0.length c0_0,.bool a0_1],.agg #[.slice A1_0 l1_0.length c1_0,.bool a1_1]] w fun e w'=>∃v1_ v3_:Value,e=.returned (.tuple #[.agg #[.bool r1,v1_],.agg #[.bool r3,v3_],.int .i64 r5])∧Kd.R (Kd.int .u64) 72 w' w.heap.size (fun k_=>some k_≠(v3_:Value).ownBlock) v1_ r2∧Kd.R (Kd.int .u64) 72 w' w.heap.size (fun k_=>some k_≠(v1_:Value).ownBlock) v3_ r4∧Below w.heap.size w w':=by
 have hu26:=Tryz.underlying26
 have hu80:=Tryz.underlying80
 have K:=Kp.refl w
 replace K:=K.parV (Kd.V_mono (ok':=fun _=>True) (Kd.V_mk (e:=72) (base:=0) hc0_0 (Kd.C_F (Kd.heap_int .u64) hr0_0)) (fun _ h=>trivial))
 clear hr0_0 hc0_0
 replace K:=K.parV (Kd.V_mono (ok':=fun _=>True) (Kd.V_mk (e:=72) (base:=0) hc1_0 (Kd.C_F (Kd.heap_int .u64) hr1_0)) (fun _ h=>trivial))
 clear hr1_0 hc1_0
 try simp only[klv]at K
 rw[whole_pair.f]at h
 replace h:=bindA h
 obtain⟨z9,A10,h⟩:=h
 by_cases c_0:z9=true
 ·subst c_0
  rw[if_pos rfl]at h
  obtain⟨k,rfl⟩:∃j,k=j+1:=by
   cases k with
   | zero=>simp[whole_pair.j0]at h
   | succ k=>exact⟨k,rfl⟩
  rw[whole_pair.j0]at h
  rw[if_pos rfl]at h
  exact nomatch h
 replace c_0:=Bool.eq_false_iff.mpr c_0
 subst c_0
 rw[if_neg (by decide)]at h
 replace h:=bindA h
 obtain⟨z12,A13,h⟩:=h
 obtain⟨k,rfl⟩:∃j,k=j+1:=by
  cases k with
  | zero=>simp[whole_pair.j0]at h
  | succ k=>exact⟨k,rfl⟩
 rw[whole_pair.j0]at h
 by_cases c_1:z12=true
 ·subst c_1
  rw[if_pos rfl]at h
  exact nomatch h
 replace c_1:=Bool.eq_false_iff.mpr c_1
 subst c_1
 rw[if_neg (by decide)]at h
 go_enter Tryz.func102,Tryz.ntmps102
 go_wp2_with (first|(refine gd 2 rfl ?_;refine kbk 2 #[.slice A0_0 l0_0.length c0_0,.bool a0_1] 80 K.u ?_;clear K;intro g1 W2 K)|(refine gd 3 rfl ?_;refine kbk 3 #[.slice A1_0 l1_0.length c1_0,.bool a1_1] 80 K.u ?_;clear K;intro g3 W4 K)|(refine gd 4 rfl ?_;refine kbk 4 #[.bool false,.slice none 0 0] 26 K.u ?_;clear K;intro g5 W6 K)|(refine gd 5 rfl ?_;refine kbk 5 #[.bool false,.slice none 0 0] 26 K.u ?_;clear K;intro g7 W8 K;obtain⟨ua0,ub0⟩:=K.cell2 0 rfl)|(refine gd 8 rfl ?_;clear ua0 ub0;refine kgl (some 8) rfl rfl Tryz.func53 #[.agg #[.slice A0_0 l0_0.length c0_0,.bool a0_1]] rfl ?_;refine(whole_number_long.calls _ _ l0_0 a0_1 false _ (K.C 0 rfl) (K.le 0 rfl) A10.out).mono ?_;rintro e W11 ⟨rfl,hb⟩;refine⟨_,rfl,?_⟩;replace K:=K.u.up hb;clear hb;obtain⟨ua1,ub1⟩:=K.cell2 1 rfl)|(refine gd 11 rfl ?_;clear ua1 ub1;refine gate_guard (by rfl) ?_;refine kgl (some 11) rfl rfl Tryz.func53 #[.agg #[.slice A1_0 l1_0.length c1_0,.bool a1_1]] rfl ?_;refine(whole_number_long.calls _ _ l1_0 a1_1 false _ (K.C 1 rfl) (K.le 1 rfl) A13.out).mono ?_;rintro e W14 ⟨rfl,hb⟩;refine⟨_,rfl,?_⟩;replace K:=K.u.up hb;clear hb))
 replace h:=bindA h
 obtain⟨⟨z15,x16⟩,A17,h⟩:=h
 dsimp only at h
 replace h:=bindA h
 obtain⟨⟨z18,x19⟩,A20,h⟩:=h
 dsimp only at h
 obtain⟨Bs,Vs,Os,hBs,hVs,hOs,K⟩:=K.abs
 have HS:Aside0 (∀l m o W,Kp w (Bs++l) m o W→W.cell? ⟨g1,0,none⟩=some (.slice A0_0 l0_0.length c0_0)∧W.cell? ⟨g1,1,none⟩=some (.bool a0_1)∧W.cell? ⟨g3,0,none⟩=some (.slice A1_0 l1_0.length c1_0)∧W.cell? ⟨g3,1,none⟩=some (.bool a1_1)):=⟨fun l m o W K=>by rw[hBs.out]at K;exact⟨K.cell 0 rfl 0 rfl,K.cell 0 rfl 1 rfl,K.cell 1 rfl 0 rfl,K.cell 1 rfl 1 rfl⟩⟩
 refine kpstart (n:=7) (ds:=[]) (S:=fun W=>W.cell? ⟨g1,0,none⟩=some (.slice A0_0 l0_0.length c0_0)∧W.cell? ⟨g1,1,none⟩=some (.bool a0_1)∧W.cell? ⟨g3,0,none⟩=some (.slice A1_0 l1_0.length c1_0)∧W.cell? ⟨g3,1,none⟩=some (.bool a1_1)) (bm_ 7 0) (by kernel_rfl) rfl rfl K (HS.out [] _ _) (fun W23 K hH=>?_)
 refine tk_ 0 15 ?_ (bm_ 7 1) rfl rfl (by kernel_rfl) (fun _ _ _ h=>h) (by rfl) ?_ hH ?_ ?_ ?_
 rotate_left
 ·rintro w' ⟨s0,s1,s2,s3⟩
  go_simp
  with_reducible rfl
 rotate_left
 ·simp only[Act.put,kss,i64_w,i32_w]
  rfl
 refine tk_ 2 17 ?_ (bm_ 7 5) rfl rfl (by kernel_rfl) (fun _ _ _ h=>h) (by rfl) ?_ hH ?_ ?_ ?_
 rotate_left
 ·rintro w' ⟨s0,s1,s2,s3⟩
  go_simp
  with_reducible rfl
 rotate_left
 ·simp only[Act.put,kss,i64_w,i32_w]
  rfl
 refine one_ (i:=1) (N:=some 16) (bm_ 7 7) rfl rfl (by kernel_rfl) (by decide) (fun Kc hK=>?_)
 refine kgo Tryz.func60 #[.agg #[.slice A0_0 l0_0.length c0_0,.bool a0_1]] (by rfl) rfl rfl ?_
 refine(whole_number_out.calls _ _ l0_0 a0_1 z15 x16 _ (K.C 0 (hv hVs rfl)) (K.le 0 (hv hVs rfl)) A17.out).mono ?_
 rintro e W' ⟨v21,rfl,ho24,hb⟩
 replace K:=K.addRI 0 0 hb ho24 (lb rfl)
 clear hb ho24
 refine⟨_,rfl,hK.out _ _ (HS.out _ _ _ _ K) fun hH=>?_⟩
 clear hK Kc
 refine norm_ (a':=?_) ?_ ?_
 rotate_left
 ·show Act.put _ (some 16) _=_
  simp only[Act.put,kss,i64_w,i32_w]
  rfl
 refine one_ (i:=3) (N:=some 18) (bm_ 7 15) rfl rfl (by kernel_rfl) (by decide) (fun Kc hK=>?_)
 refine kgo Tryz.func60 #[.agg #[.slice A1_0 l1_0.length c1_0,.bool a1_1]] (by rfl) rfl rfl ?_
 refine(whole_number_out.calls _ _ l1_0 a1_1 z18 x19 _ (K.C 1 (hv hVs rfl)) (K.le 1 (hv hVs rfl)) A20.out).mono ?_
 rintro e W' ⟨v22,rfl,ho25,hb⟩
 replace K:=K.addRI 1 1 hb ho25 (lb rfl)
 clear hb ho25
 refine⟨_,rfl,hK.out _ _ (HS.out _ _ _ _ K) fun hH=>?_⟩
 clear hK Kc
 refine norm_ (a':=?_) ?_ ?_
 rotate_left
 ·show Act.put _ (some 18) _=_
  simp only[Act.put,kss,i64_w,i32_w]
  rfl
 obtain⟨P26,c27,e28⟩:=K.slice 2 (hv hVs rfl)
 subst e28
 obtain⟨P29,c30,e31⟩:=K.slice 3 (hv hVs rfl)
 subst e31
 rw[hBs.out,hVs.out,hOs.out]at K
 simp only[kls,klv]at K
 clear hBs hVs hOs HS hH
 refine ko2 (i:=4) (bm_ 7 31) 2 (.bool z15) (.slice P26 x16.length c27) K rfl rfl rfl (by kernel_rfl) (by decide) (by rfl) (fun W K=>⟨K.cell 0 rfl 0 rfl,K.cell 0 rfl 1 rfl,K.cell 1 rfl 0 rfl,K.cell 1 rfl 1 rfl⟩) ?_
 clear K
 intro W32 K
 simp only[kls,klv]at K
 refine ko2 (i:=5) (bm_ 7 63) 3 (.bool z18) (.slice P29 x19.length c30) K rfl rfl rfl (by kernel_rfl) (by decide) (by rfl) (fun W K=>⟨K.cell 0 rfl 0 rfl,K.cell 0 rfl 1 rfl,K.cell 1 rfl 0 rfl,K.cell 1 rfl 1 rfl⟩) ?_
 clear K
 intro W33 K
 simp only[kls,klv]at K
 refine pu_ 6 6 ?_ (bm_ 7 127) rfl rfl (by kernel_rfl) (fun _ _ _ h=>h) (by rfl) ?_ ?_ ?_ ?_
 rotate_left
 ·intro w'
  go_simp
  with_reducible rfl
 rotate_left
 ·simp only[Act.put,kss,i64_w,i32_w]
  rfl
 refine done_ (by kernel_rfl) ?_
 simp only[Option.some.injEq,Prod.mk.injEq]at h
 obtain⟨rfl,rfl,rfl,rfl,rfl⟩:=h
 go_wp2
 refine bodyPost_ret (results_list (rs:=[.cell 4 26,.cell 5 26,.tmp 6]) rfl (by simp) (.cell g5 26 #[.bool z15,.slice P26 x16.length c27] (0,0) _ rfl (K.u.heap 2 rfl) Tryz.underlying26 rfl (by kernel_rfl) (.cell g7 26 #[.bool z18,.slice P29 x19.length c30] (0,0) _ rfl (K.u.heap 3 rfl) Tryz.underlying26 rfl (by kernel_rfl) (.tmp .nil)))) rfl ?_
 exact⟨_,_,rfl,K.u.Rne 0 rfl rfl fun k_ h_=>K.apart 0 1 rfl rfl (by decide) k_ h_,K.u.Rne 1 rfl rfl fun k_ h_=>K.apart 1 0 rfl rfl (by decide) k_ h_,K.u.below⟩
def whole_Quo.f (k:Nat) (a0_0:Bool) (l0_1:List Int) (a1_0:Bool) (l1_1:List Int):Option (Bool×List Int×Bool×List Int×Int):=(whole_of.f k a1_0 l1_1).bind fun bt741=>((whole_amount_null.f bt741.1).bind fun t746=>(if t746=true then(none) else((whole_of.f k a0_0 l0_1).bind fun bt747=>((whole_number_cut.f k bt747.1 bt747.2 bt741.1 bt741.2).bind fun bt751=>((whole_pair.f k bt751.1 bt751.2.1 bt751.2.2.1 bt751.2.2.2).bind fun bt759=>(some (bt759.1,bt759.2.1,bt759.2.2.1,bt759.2.2.2.1,bt759.2.2.2.2)))))))
def whole_Quo.T4:Bool×List (List Nat×List Nat):=(true,[([],[]),([0],[0]),([],[]),([1,2,1],[1,2]),([3],[3]),([3],[3]),([4,5,3],[4,5]),([6],[6]),([6],[6]),([6],[6]),([7,6,0,1,2,3,4,5,6,7,8,9],[7]),([8,10,0,1,2,3,4,5,6,7,8,9,10],[8]),([9,11,0,1,2,3,4,5,6,7,8,9,10,11],[9])])
def whole_Quo.B4:List Nat:=[0,1,0,7,15,15,63,127,127,127,1023,2047,4095]
theorem whole_Quo.tab4:rtab .any (opsOf Tryz.f133 4)=whole_Quo.T4:=by kernel_rfl
theorem whole_Quo.bits4:waitsOk whole_Quo.T4.2 whole_Quo.B4=true:=by kernel_rfl
theorem whole_Quo.calls (k:Nat) (a0_0:Bool) (A0_1:Option Addr) (c0_1:Nat) (l0_1:List Int) (a1_0:Bool) (A1_1:Option Addr) (c1_1:Nat) (l1_1:List Int) (r1:Bool) (r2:List Int) (r3:Bool) (r4:List Int) (r5:Int) (w:World) (hr0_1:Kd.C (Kd.int .u64) w A0_1 l0_1.length l0_1) (hc0_1:l0_1.length≤c0_1) (hr1_1:Kd.C (Kd.int .u64) w A1_1 l1_1.length l1_1) (hc1_1:l1_1.length≤c1_1) (h:whole_Quo.f k a0_0 l0_1 a1_0 l1_1=some (r1,r2,r3,r4,r5)) :
  Calls Tryz.prog 133 #[.agg #[.bool a0_0,.slice A0_1 l0_1.length c0_1],.agg #[.bool a1_0,.slice A1_1 l1_1.length c1_1]] w fun e w'=>∃v1_ v3_:Value,e=.returned (.tuple #[.agg #[.bool r1,v1_],.agg #[.bool r3,v3_],.int .i64 r5])∧Kd.R (Kd.int .u64) 72 w' w.heap.size (fun k_=>some k_≠(v3_:Value).ownBlock) v1_ r2∧Kd.R (Kd.int .u64) 72 w' w.heap.size (fun k_=>some k_≠(v1_:Value).ownBlock) v3_ r4∧Below w.heap.size w w':=by
 have hu26:=Tryz.underlying26
 have hu80:=Tryz.underlying80
 have K:=Kp.refl w
 replace K:=K.parV (Kd.V_mono (ok':=fun _=>True) (Kd.V_mk (e:=72) (base:=0) hc0_1 (Kd.C_F (Kd.heap_int .u64) hr0_1)) (fun _ h=>trivial))
 clear hr0_1 hc0_1
 replace K:=K.parV (Kd.V_mono (ok':=fun _=>True) (Kd.V_mk (e:=72) (base:=0) hc1_1 (Kd.C_F (Kd.heap_int .u64) hr1_1)) (fun _ h=>trivial))
 clear hr1_1 hc1_1
 try simp only[klv]at K
 rw[whole_Quo.f]at h
 replace h:=bindA h
 obtain⟨⟨x9,z10⟩,A11,h⟩:=h
 dsimp only at h
 replace h:=bindA h
 obtain⟨z22,A23,h⟩:=h
 by_cases c_0:z22=true
 ·subst c_0
  rw[if_pos rfl]at h
  exact nomatch h
 replace c_0:=Bool.eq_false_iff.mpr c_0
 subst c_0
 rw[if_neg (by decide)]at h
 go_enter Tryz.func133,Tryz.ntmps133
 go_wp2_with (first|(refine gd 2 rfl ?_;refine kbk 2 #[.bool a0_0,.slice A0_1 l0_1.length c0_1] 26 K.u ?_;clear K;intro g1 W2 K)|(refine gd 3 rfl ?_;refine kbk 3 #[.bool a1_0,.slice A1_1 l1_1.length c1_1] 26 K.u ?_;clear K;intro g3 W4 K)|(refine gd 4 rfl ?_;refine kbk 4 #[.bool false,.slice none 0 0] 26 K.u ?_;clear K;intro g5 W6 K)|(refine gd 5 rfl ?_;refine kbk 5 #[.bool false,.slice none 0 0] 26 K.u ?_;clear K;intro g7 W8 K;obtain⟨ua1,ub1⟩:=K.cell2 1 rfl)|(refine gd 9 rfl ?_;clear ua1 ub1;refine kgl (some 9) rfl rfl Tryz.func52 #[.agg #[.bool a1_0,.slice A1_1 l1_1.length c1_1]] rfl ?_;refine(whole_of.calls _ a1_0 _ _ _ l1_1 x9 z10 _ (K.V 1 rfl) A11.out).mono ?_;rintro e W14 ⟨v12,rfl,ho13,hb⟩;refine⟨_,rfl,?_⟩;replace K:=K.u.add (fun _=>True) hb ho13 (fun _ h=>h.t);clear hb ho13;obtain⟨P15,c16,e17⟩:=K.slice 2 rfl;subst e17)|(refine gd 7 rfl ?_;refine kbk 7 #[.slice none 0 0,.bool false] 80 K.u ?_;clear K;intro g18 W19 K)|(refine gs 80 7 9 rfl ?_;refine ks2 4 (.slice P15 x9.length c16) (.bool z10) K.u rfl ?_;clear K;intro W20 K;simp only[kls,klv]at K;obtain⟨ua4,ub4⟩:=K.cell2 4 rfl)|(refine gd 12 rfl ?_;clear ua4 ub4;refine kgl (some 12) rfl rfl Tryz.func54 #[.slice P15 x9.length c16] rfl ?_;refine(whole_amount_null.calls _ _ x9 false _ (K.C 2 rfl) (K.le 2 rfl) A23.out).mono ?_;rintro e W24 ⟨rfl,hb⟩;refine⟨_,rfl,?_⟩;replace K:=K.u.up hb.below;clear hb))
 replace h:=bindA h
 obtain⟨⟨x25,z26⟩,A27,h⟩:=h
 dsimp only at h
 replace h:=bindA h
 obtain⟨⟨x28,z29,x30,z31⟩,A32,h⟩:=h
 dsimp only at h
 replace h:=bindA h
 obtain⟨⟨z33,x34,z35,x36,n37⟩,A38,h⟩:=h
 dsimp only at h
 obtain⟨Bs,Vs,Os,hBs,hVs,hOs,K⟩:=K.abs
 have HS:Aside0 (∀l m o W,Kp w (Bs++l) m o W→W.cell? ⟨g1,0,none⟩=some (.bool a0_0)∧W.cell? ⟨g1,1,none⟩=some (.slice A0_1 l0_1.length c0_1)∧W.cell? ⟨g18,0,none⟩=some (.slice P15 x9.length c16)∧W.cell? ⟨g18,1,none⟩=some (.bool z10)):=⟨fun l m o W K=>by rw[hBs.out]at K;exact⟨K.cell 0 rfl 0 rfl,K.cell 0 rfl 1 rfl,K.cell 4 rfl 0 rfl,K.cell 4 rfl 1 rfl⟩⟩
 refine kpstart (n:=13) (ds:=[]) (S:=fun W=>W.cell? ⟨g1,0,none⟩=some (.bool a0_0)∧W.cell? ⟨g1,1,none⟩=some (.slice A0_1 l0_1.length c0_1)∧W.cell? ⟨g18,0,none⟩=some (.slice P15 x9.length c16)∧W.cell? ⟨g18,1,none⟩=some (.bool z10)) (bm_ 13 0) (by kernel_rfl) rfl rfl K (HS.out [] _ _) (fun W44 K hH=>?_)
 refine with_tabW whole_Quo.tab4 whole_Quo.bits4 (fun HT_ HW_=>?_)
 refine tk_ 0 15 ?_ (bm_ 13 1) rfl rfl (take_ofW HT_.out HW_.out (by kernel_rfl)) (fun _ _ _ h=>h) (by rfl) ?_ hH ?_ ?_ ?_
 rotate_left
 ·rintro w' ⟨s0,s1,s2,s3⟩
  go_simp
  with_reducible rfl
 rotate_left
 ·simp only[Act.put,kss,i64_w,i32_w]
  rfl
 refine tk_ 2 17 ?_ (bm_ 13 5) rfl rfl (take_ofW HT_.out HW_.out (by kernel_rfl)) (fun _ _ _ h=>h) (by rfl) ?_ hH ?_ ?_ ?_
 rotate_left
 ·rintro w' ⟨s0,s1,s2,s3⟩
  go_simp
  with_reducible rfl
 rotate_left
 ·simp only[Act.put,kss,i64_w,i32_w]
  rfl
 refine one_ (i:=1) (N:=some 16) (bm_ 13 7) rfl rfl (one_of HT_.out (by kernel_rfl)) (by decide) (fun Kc hK=>?_)
 refine kgo Tryz.func52 #[.agg #[.bool a0_0,.slice A0_1 l0_1.length c0_1]] (by rfl) rfl rfl ?_
 refine(whole_of.calls _ a0_0 _ _ _ l0_1 x25 z26 _ (K.V 0 (hv hVs rfl)) A27.out).mono ?_
 rintro e W' ⟨v39,rfl,ho45,hb⟩
 replace K:=K.addI 0 (fun _=>True) hb ho45 (fun _ h=>h.t)
 clear hb ho45
 refine⟨_,rfl,hK.out _ _ (HS.out _ _ _ _ K) fun hH=>?_⟩
 clear hK Kc
 refine norm_ (a':=?_) ?_ ?_
 rotate_left
 ·show Act.put _ (some 16) _=_
  simp only[Act.put,kss,i64_w,i32_w]
  rfl
 refine one_ (i:=3) (N:=some 18) (bm_ 13 15) rfl rfl (one_of HT_.out (by kernel_rfl)) (by decide) (fun Kc hK=>?_)
 obtain⟨P46,c47,e48⟩:=K.slice 3 (hv hVs rfl)
 subst e48
 refine kgo Tryz.func98 #[.agg #[.slice P46 x25.length c47,.bool z26],.agg #[.slice P15 x9.length c16,.bool z10]] (by rfl) rfl rfl ?_
 refine(whole_number_cut.calls _ _ _ _ x25 z26 _ _ x9 z10 x28 z29 x30 z31 _ (K.V 3 (hv hVs rfl)) (K.C 2 (hv hVs rfl)) (K.le 2 (hv hVs rfl)) A32.out).mono ?_
 rintro e W' ⟨v40,v41,rfl,ho49,ho50,hb⟩
 have K1:=K.addI 1 (fun _=>True) hb ho49 (fun _ h=>h.t)
 replace K:=K.moreI 2 (fun _=>True) K1 ho50 (fun _ h=>h.t)
 clear K1
 clear hb ho49 ho50
 refine⟨_,rfl,hK.out _ _ (HS.out _ _ _ _ K) fun hH=>?_⟩
 refine norm_ (a':=?_) ?_ ?_
 rotate_left
 ·show Act.put _ (some 18) _=_
  simp only[Act.put,kss,i64_w,i32_w]
  rfl
 refine pu_ 4 19 ?_ (bm_ 13 31) rfl rfl (any_of HT_.out (by kernel_rfl)) (fun _ _ _ h=>h) (by rfl) ?_ ?_ ?_ ?_
 rotate_left
 ·intro w'
  go_simp
  with_reducible rfl
 rotate_left
 ·simp only[Act.put,kss,i64_w,i32_w]
  rfl
 refine pu_ 5 20 ?_ (bm_ 13 63) rfl rfl (any_of HT_.out (by kernel_rfl)) (fun _ _ _ h=>h) (by rfl) ?_ ?_ ?_ ?_
 rotate_left
 ·intro w'
  go_simp
  with_reducible rfl
 rotate_left
 ·simp only[Act.put,kss,i64_w,i32_w]
  rfl
 clear hK Kc
 refine one_ (i:=6) (N:=some 21) (bm_ 13 127) rfl rfl (one_of HT_.out (by kernel_rfl)) (by decide) (fun Kc hK=>?_)
 obtain⟨P51,c52,e53⟩:=K.slice 4 (hv hVs rfl)
 subst e53
 obtain⟨P54,c55,e56⟩:=K.slice 5 (hv hVs rfl)
 subst e56
 refine kgo Tryz.func102 #[.agg #[.slice P51 x28.length c52,.bool z29],.agg #[.slice P54 x30.length c55,.bool z31]] (by rfl) rfl rfl ?_
 refine(whole_pair.calls _ _ _ x28 z29 _ _ x30 z31 z33 x34 z35 x36 n37 _ (K.C 4 (hv hVs rfl)) (K.le 4 (hv hVs rfl)) (K.C 5 (hv hVs rfl)) (K.le 5 (hv hVs rfl)) A38.out).mono ?_
 rintro e W' ⟨v42,v43,rfl,ho57,ho58,hb⟩
 replace K:=K.addR2I 3 0 hb ho57 ho58 (lb rfl)
 clear hb ho57 ho58
 refine⟨_,rfl,hK.out _ _ (HS.out _ _ _ _ K) fun hH=>?_⟩
 refine norm_ (a':=?_) ?_ ?_
 rotate_left
 ·show Act.put _ (some 21) _=_
  simp only[Act.put,kss,i64_w,i32_w]
  rfl
 refine pu_ 7 22 ?_ (bm_ 13 255) rfl rfl (any_of HT_.out (by kernel_rfl)) (fun _ _ _ h=>h) (by rfl) ?_ ?_ ?_ ?_
 rotate_left
 ·intro w'
  go_simp
  with_reducible rfl
 rotate_left
 ·simp only[Act.put,kss,i64_w,i32_w]
  rfl
 refine pu_ 8 23 ?_ (bm_ 13 511) rfl rfl (any_of HT_.out (by kernel_rfl)) (fun _ _ _ h=>h) (by rfl) ?_ ?_ ?_ ?_
 rotate_left
 ·intro w'
  go_simp
  with_reducible rfl
 rotate_left
 ·simp only[Act.put,kss,i64_w,i32_w]
  rfl
 refine pu_ 9 24 ?_ (bm_ 13 1023) rfl rfl (any_of HT_.out (by kernel_rfl)) (fun _ _ _ h=>h) (by rfl) ?_ ?_ ?_ ?_
 rotate_left
 ·intro w'
  go_simp
  with_reducible rfl
 rotate_left
 ·simp only[Act.put,kss,i64_w,i32_w]
  rfl
 clear hK Kc
 obtain⟨P59,c60,e61⟩:=K.slice 6 (hv hVs rfl)
 subst e61
 obtain⟨P62,c63,e64⟩:=K.slice 7 (hv hVs rfl)
 subst e64
 rw[hBs.out,hVs.out,hOs.out]at K
 simp only[kls,klv]at K
 clear hBs hVs hOs HS hH
 refine ko2 (i:=10) (bm_ 13 2047) 2 (.bool z33) (.slice P59 x34.length c60) K rfl rfl rfl (one_of HT_.out (by kernel_rfl)) (by decide) (by rfl) (fun W K=>⟨K.cell 0 rfl 0 rfl,K.cell 0 rfl 1 rfl,K.cell 4 rfl 0 rfl,K.cell 4 rfl 1 rfl⟩) ?_
 clear K
 intro W65 K
 simp only[kls,klv]at K
 refine ko2 (i:=11) (bm_ 13 4095) 3 (.bool z35) (.slice P62 x36.length c63) K rfl rfl rfl (one_of HT_.out (by kernel_rfl)) (by decide) (by rfl) (fun W K=>⟨K.cell 0 rfl 0 rfl,K.cell 0 rfl 1 rfl,K.cell 4 rfl 0 rfl,K.cell 4 rfl 1 rfl⟩) ?_
 clear K
 intro W66 K
 simp only[kls,klv]at K
 refine pu_ 12 6 ?_ (bm_ 13 8191) rfl rfl (any_of HT_.out (by kernel_rfl)) (fun _ _ _ h=>h) (by rfl) ?_ ?_ ?_ ?_
 rotate_left
 ·intro w'
  go_simp
  with_reducible rfl
 rotate_left
 ·simp only[Act.put,kss,i64_w,i32_w]
  rfl
 refine done_ (done_of HT_.out (by kernel_rfl)) ?_
 clear HT_ HW_
 simp only[Option.some.injEq,Prod.mk.injEq]at h
 obtain⟨rfl,rfl,rfl,rfl,rfl⟩:=h
 go_wp2
 refine bodyPost_ret (results_list (rs:=[.cell 4 26,.cell 5 26,.tmp 6]) rfl (by simp) (.cell g5 26 #[.bool z33,.slice P59 x34.length c60] (0,0) _ rfl (K.u.heap 2 rfl) Tryz.underlying26 rfl (by kernel_rfl) (.cell g7 26 #[.bool z35,.slice P62 x36.length c63] (0,0) _ rfl (K.u.heap 3 rfl) Tryz.underlying26 rfl (by kernel_rfl) (.tmp .nil)))) rfl ?_
 exact⟨_,_,rfl,K.u.Rne 0 rfl rfl fun k_ h_=>K.apart 0 1 rfl rfl (by decide) k_ h_,K.u.Rne 1 rfl rfl fun k_ h_=>K.apart 1 0 rfl rfl (by decide) k_ h_,K.u.below⟩
end Go.Proofs.YtikencoikigllaaGreatDoor.PRy
namespace Go.Proofs.YtikencoikigllaaGreatDoor.PRy
open Go Go.RowKit Go.Proofs.YtikencoikigllaaGreatDoorW.PrintWords Go.Proofs.YtikencoikigllaaGreatDoorW.PrintLast Go.Proofs.YtikencoikigllaaGreatDoorW.PrintMore Go.Proofs.YtikencoikigllaaGreatDoor.Mine
inductive Cells25 (W:World):List Value→List S26→Prop
 | nil:Cells25 W [] []
 | cons {b:Bool} {A:Option Addr} {c:Nat} {l:List Int} {rest:List Value} {xs:List S26} (hl:l.length≤c) (hC:Kd.C (Kd.int .u64) W A l.length l) (h:Cells25 W rest xs):Cells25 W (.bool b::.slice A l.length c::rest) (⟨b,l⟩::xs)
theorem Cells25.get {W:World} {l:List Value} {xs:List S26} (h:Cells25 W l xs):∀(i:Nat) (x:S26),xs[i]? = some x→∃A c,l[i*2]? = some (.bool x.f0)∧l[i*2+1]? = some (.slice A x.f1.length c)∧x.f1.length≤c∧Kd.C (Kd.int .u64) W A x.f1.length x.f1:=by
 induction h with
 | nil=>intro i x hx;simp at hx
 | @cons b A c m rest xs hl hC h ih=>
  intro i x hx
  cases i with
  | zero=>
   have:x=⟨b,m⟩:=by simpa using hx.symm
   subst this
   exact⟨A,c,rfl,rfl,hl,hC⟩
  | succ i=>
   obtain⟨A',c',h1,h2,h3,h4⟩:=ih i x (by simpa using hx)
   refine⟨A',c',?_,?_,h3,h4⟩
   ·rw[show(i+1)*2=i*2+1+1 from by omega];simpa using h1
   rw[show(i+1)*2+1=i*2+1+1+1 from by omega];simpa using h2
theorem C26 {W:World} {g:Nat} {t:TypeId} {cs:List Value} {xs:List S26} (h:W.heap[g]? = some (.cells cs.toArray t (0,0))) (hx:Cells25 W cs xs) (hm:xs.length≤9223372036854775807:=by exact Nat.le_of_ble_eq_true rfl):Kd.C k26 W (some ⟨g,0,none⟩) xs.length xs:=by
 refine⟨rfl,hm,fun _=>⟨⟨g,0,none⟩,rfl,fun j q hj=>?_⟩⟩
 obtain⟨A,c,h1,h2,h3,h4⟩:=hx.get j q hj
 refine⟨_,rfl,k26_mk W q h3 h4,fun i u hi=>?_⟩
 have hz:(Addr.add ⟨g,0,none⟩ (j*k26.sz+i))=⟨g,j*2+i,none⟩:=by
  show(Addr.add ⟨g,0,none⟩ (j*2+i))=_
  unfold Addr.add
  split<;>simp_all
 rw[hz]
 refine(blk_cell h _).trans ?_
 match i,hi with
 | 0,hi=>
  have:Value.bool q.f0=u:=by simpa using hi
  subst this
  simpa using h1
 | 1,hi=>
  have:Value.slice A q.f1.length c=u:=by simpa using hi
  subst this
  simpa using h2
end Go.Proofs.YtikencoikigllaaGreatDoor.PRy
namespace Go.Proofs.YtikencoikigllaaGreatDoor.PRy
open Go Go.RowKit Go.Proofs.YtikencoikigllaaGreatDoorW.PrintWords Go.Proofs.YtikencoikigllaaGreatDoorW.PrintLast Go.Proofs.YtikencoikigllaaGreatDoorW.PrintMore Go.Proofs.YtikencoikigllaaGreatDoor.Mine
section
variable {P:Program} {ops:Array Oper} {Q:Exit→Act→World→Prop}
theorem kbls {rest:List Oper} {o:Oper} {a:Act} {W:World} (cs:Array Value) (t:TypeId) (n:Nat)
  (h:∀g,g=W.heap.size→∀w1,w1.heap[g]? = some (.cells cs t (0,0))→Below W.heap.size W w1→wpList P ops Q rest (a.put o.dst (.slice (some ⟨g,0,none⟩) n n)) w1)
  (hgd:o.guard=none:=by rfl) (hrun:(execOp a.eval o).run P W=.ok (.value (.slice (some ⟨W.heap.size,0,none⟩) n n)) (W.alloc (.cells cs t (0,0))):=by first|(go_simp;done)|(go_simp;rfl)):wpList P ops Q (o::rest) a W:=
 Kd.event_run hgd hrun (h _ rfl _ (blk_new W _) (below_alloc (Below.refl _ _) _))
end
end Go.Proofs.YtikencoikigllaaGreatDoor.PRy
namespace Go.Proofs.YtikencoikigllaaGreatDoor.PRy
open Go.RowKit Go.Proofs.YtikencoikigllaaGreatDoorW.PrintWords Go.Proofs.YtikencoikigllaaGreatDoorW.PrintLast Go.Proofs.YtikencoikigllaaGreatDoorW.PrintMore
open Go.Proofs.YtikencoikigllaaGreatDoor.Mine
attribute [local go_sem] max2_int min2_int max_two min_two max_three min_three max_four min_four
def ratio_fraction_low.f (k:Nat) (a0_0:Bool) (l0_1:List Int) (a0_2:Bool) (l0_3:List Int):Option (Bool×List Int×Bool×List Int):=(whole_Gcd.f k (([(⟨a0_0,l0_1⟩:S26),(⟨a0_2,l0_3⟩:S26)]:List (S26)))).bind fun bt773=>((whole_Quo.f k a0_0 l0_1 bt773.1 bt773.2.1).bind fun bt779=>((whole_Quo.f k a0_2 l0_3 bt773.1 bt773.2.1).bind fun bt790=>(some (bt779.1,bt779.2.1,bt790.1,bt790.2.1))))
theorem ratio_fraction_low.calls (k:Nat) (a0_0:Bool) (P0_1_:Nat→Prop) (A0_1:Option Addr) (c0_1:Nat) (l0_1:List Int) (a0_2:Bool) (P0_3_:Nat→Prop) (A0_3:Option Addr) (c0_3:Nat) (l0_3:List Int) (r1:Bool) (r2:List Int) (r3:Bool) (r4:List Int) (w:World) (hs0_1:Kd.V (Kd.int .u64) 72 w w.heap.size (fun k_=>P0_1_ k_) (.slice A0_1 l0_1.length c0_1) l0_1) (hs0_3:Kd.V (Kd.int .u64) 72 w w.heap.size (fun k_=>P0_3_ k_) (.slice A0_3 l0_3.length c0_3) l0_3) (h:ratio_fraction_low.f k a0_0 l0_1 a0_2 l0_3=some (r1,r2,r3,r4)) :
  Calls Tryz.prog 68 #[.agg #[.bool a0_0,.slice A0_1 l0_1.length c0_1,.bool a0_2,.slice A0_3 l0_3.length c0_3]] w fun e w'=>∃v1_ v3_:Value,e=.returned (.agg #[.bool r1,v1_,.bool r3,v3_])∧Kd.R (Kd.int .u64) 72 w' w.heap.size (fun k_=>(w.heap.size≤k_)∧some k_≠(v3_:Value).ownBlock) v1_ r2∧Kd.R (Kd.int .u64) 72 w' w.heap.size (fun k_=>(w.heap.size≤k_)∧some k_≠(v1_:Value).ownBlock) v3_ r4∧Below w.heap.size w w':=by
 have hu26:=Tryz.underlying26
 have hu101:=Tryz.underlying101
 have hu103:=Tryz.underlying103
 have K:=Kp.refl w
 replace K:=K.parV (Kd.V_mono (ok':=fun _=>True) hs0_1 (fun _ h=>trivial))
 clear hs0_1
 replace K:=K.parV (Kd.V_mono (ok':=fun _=>True) hs0_3 (fun _ h=>trivial))
 clear hs0_3
 try simp only[klv]at K
 rw[ratio_fraction_low.f]at h
 replace h:=bindA h
 obtain⟨⟨z7,x8,n9⟩,A10,h⟩:=h
 dsimp only at h
 replace h:=bindA h
 obtain⟨⟨z21,x22,z23,x24,n25⟩,A26,h⟩:=h
 dsimp only at h
 replace h:=bindA h
 obtain⟨⟨z46,x47,z48,x49,n50⟩,A51,h⟩:=h
 dsimp only at h
 simp only[Option.some.injEq,Prod.mk.injEq]at h
 obtain⟨rfl,rfl,rfl,rfl⟩:=h
 go_enter Tryz.func68,Tryz.ntmps68
 go_wp2_with (first|(refine gd 1 rfl ?_;refine kbk 1 #[.bool a0_0,.slice A0_1 l0_1.length c0_1,.bool a0_2,.slice A0_3 l0_3.length c0_3] 103 K.u ?_;clear K;intro g1 W2 K)|(refine gd 2 rfl ?_;refine kbk 2 #[.bool false,.slice none 0 0,.bool false,.slice none 0 0] 103 K.u ?_;clear K;intro g3 W4 K;have ua0:=K.cell 0 rfl 0 rfl;have ub0:=K.cell 0 rfl 1 rfl;have uc0:=K.cell 0 rfl 2 rfl;have ud0:=K.cell 0 rfl 3 rfl)|(refine gd 18 rfl ?_;clear ua0 ub0 uc0 ud0;refine kbls #[.bool a0_0,.slice A0_1 l0_1.length c0_1,.bool a0_2,.slice A0_3 l0_3.length c0_3] 26 2 ?_;intro g5 hg W6 hx hb;replace K:=K.u.box hg hx hb;clear hg hx hb)|(refine gd 19 rfl ?_;refine kgl (some 19) rfl rfl Tryz.func132 #[.slice (some ⟨g5,0,none⟩) 2 2] rfl ?_;refine(whole_Gcd.calls _ _ _ ([⟨a0_0,l0_1⟩,⟨a0_2,l0_3⟩]:List S26) z7 x8 n9 _ (C26 (K.heap 2 rfl) (.cons (K.le 0 rfl) (K.C 0 rfl) (.cons (K.le 1 rfl) (K.C 1 rfl) .nil))) (Nat.le_refl _) A10.out).mono ?_;rintro e W13 ⟨v11,rfl,ho12,hb⟩;refine⟨_,rfl,?_⟩;replace K:=K.u.addRE hb ho12;clear hb ho12;obtain⟨P14,c15,e16⟩:=K.slice 2 rfl;subst e16)|(refine gd 3 rfl ?_;refine kbk 3 #[.bool false,.slice none 0 0] 26 K.u ?_;clear K;intro g17 W18 K)|(refine gs 26 3 20 rfl ?_;refine ks2 3 (.bool z7) (.slice P14 x8.length c15) K.u rfl ?_;clear K;intro W19 K;simp only[kls,klv]at K;have ua0:=K.cell 0 rfl 0 rfl;have ub0:=K.cell 0 rfl 1 rfl;have uc0:=K.cell 0 rfl 2 rfl;have ud0:=K.cell 0 rfl 3 rfl;obtain⟨ua3,ub3⟩:=K.cell2 3 rfl)|(refine gd 27 rfl ?_;clear ua0 ub0 uc0 ud0 ua3 ub3;refine kgl (some 27) rfl rfl Tryz.func133 #[.agg #[.bool a0_0,.slice A0_1 l0_1.length c0_1],.agg #[.bool z7,.slice P14 x8.length c15]] rfl ?_;refine(whole_Quo.calls _ a0_0 _ _ l0_1 z7 _ _ x8 z21 x22 z23 x24 n25 _ (K.C 0 rfl) (K.le 0 rfl) (K.C 2 rfl) (K.le 2 rfl) A26.out).mono ?_;rintro e W31 ⟨v27,v28,rfl,ho29,ho30,hb⟩;refine⟨_,rfl,?_⟩;replace K:=K.u.addR2 hb ho29 ho30;clear hb ho29 ho30;obtain⟨P32,c33,e34⟩:=K.slice 3 rfl;subst e34;obtain⟨P35,c36,e37⟩:=K.slice 4 rfl;subst e37)|(refine gd 5 rfl ?_;refine kbk 5 #[.bool false,.slice none 0 0] 26 K.u ?_;clear K;intro g38 W39 K)|(refine gd 6 rfl ?_;refine kbk 6 #[.bool false,.slice none 0 0] 26 K.u ?_;clear K;intro g40 W41 K)|(refine gs 26 5 28 rfl ?_;refine ks2 4 (.bool z21) (.slice P32 x22.length c33) K.u rfl ?_;clear K;intro W42 K;simp only[kls,klv]at K)|(refine gs 26 6 29 rfl ?_;refine ks2 5 (.bool z23) (.slice P35 x24.length c36) K.u rfl ?_;clear K;intro W44 K;simp only[kls,klv]at K;have ua0:=K.cell 0 rfl 0 rfl;have ub0:=K.cell 0 rfl 1 rfl;have uc0:=K.cell 0 rfl 2 rfl;have ud0:=K.cell 0 rfl 3 rfl;obtain⟨ua3,ub3⟩:=K.cell2 3 rfl)|(refine gd 36 rfl ?_;clear ua0 ub0 uc0 ud0 ua3 ub3;refine kgl (some 36) rfl rfl Tryz.func133 #[.agg #[.bool a0_2,.slice A0_3 l0_3.length c0_3],.agg #[.bool z7,.slice P14 x8.length c15]] rfl ?_;refine(whole_Quo.calls _ a0_2 _ _ l0_3 z7 _ _ x8 z46 x47 z48 x49 n50 _ (K.C 1 rfl) (K.le 1 rfl) (K.C 2 rfl) (K.le 2 rfl) A51.out).mono ?_;rintro e W56 ⟨v52,v53,rfl,ho54,ho55,hb⟩;refine⟨_,rfl,?_⟩;replace K:=K.u.addR2 hb ho54 ho55;clear hb ho54 ho55;obtain⟨P57,c58,e59⟩:=K.slice 5 rfl;subst e59;obtain⟨P60,c61,e62⟩:=K.slice 6 rfl;subst e62)|(refine gd 8 rfl ?_;refine kbk 8 #[.bool false,.slice none 0 0] 26 K.u ?_;clear K;intro g63 W64 K)|(refine gd 9 rfl ?_;refine kbk 9 #[.bool false,.slice none 0 0] 26 K.u ?_;clear K;intro g65 W66 K)|(refine gs 26 8 37 rfl ?_;refine ks2 6 (.bool z46) (.slice P57 x47.length c58) K.u rfl ?_;clear K;intro W67 K;simp only[kls,klv]at K)|(refine gs 26 9 38 rfl ?_;refine ks2 7 (.bool z48) (.slice P60 x49.length c61) K.u rfl ?_;clear K;intro W69 K;simp only[kls,klv]at K;obtain⟨ua4,ub4⟩:=K.cell2 4 rfl;obtain⟨ua6,ub6⟩:=K.cell2 6 rfl)|(refine gs 103 2 44 rfl ?_;clear ua4 ub4 ua6 ub6;refine kstN 1 0 [.bool z21,.slice P32 x22.length c33,.bool z46,.slice P57 x47.length c58] K.u rfl ?q72 ?_;(case q72=>intro hc hf;have c0:=hc 0 _ rfl;have f0:=hf 0;have c1:=hc 1 _ rfl;have f1:=hf 1;have c2:=hc 2 _ rfl;have f2:=hf 2;have c3:=hc 3 _ rfl;have f3:=hf 3;clear hc hf;first|(go_simp;done)|(go_simp;rfl));clear K;intro W71 K;simp only[kls,klv,kpl,kss]at K))
 refine bodyPost_ret (results_single rfl (.cell g3 103 #[.bool z21,.slice P32 x22.length c33,.bool z46,.slice P57 x47.length c58] (0,0) _ rfl (K.u.heap 1 rfl) Tryz.underlying103 rfl (by kernel_rfl) .nil)) rfl ?_
 exact⟨_,_,rfl,K.u.Rne 1 rfl rfl fun k_ h_=>⟨Kd.R_base (K.R 1 rfl) k_ h_,K.apart 1 3 rfl rfl (by decide) k_ h_⟩,K.u.Rne 3 rfl rfl fun k_ h_=>⟨Kd.R_base (K.R 3 rfl) k_ h_,K.apart 3 1 rfl rfl (by decide) k_ h_⟩,K.u.below⟩
def ratio_Int.f (k:Nat) (a0_0:Bool) (l0_1:List Int) (l0_2:List Int):Option (Bool×List Int×Bool):=(ratio_made.f k a0_0 l0_1 l0_2).bind fun bt803=>(if bt803.2.2.2.2=0 then((ratio_fraction_low.f k bt803.1 bt803.2.1 bt803.2.2.1 bt803.2.2.2.1).bind fun bt813=>((whole_Of.f k 1).bind fun bt821=>((whole_Cmp.f k bt813.2.2.1 bt813.2.2.2 bt821.1 bt821.2).bind fun t825=>(if t825=0 then(some (bt813.1,bt813.2.1,true)) else(some (false,([]:List Int),false)))))) else(some (false,([]:List Int),false)))
theorem ratio_Int.calls (k:Nat) (a0_0:Bool) (A0_1:Option Addr) (c0_1:Nat) (l0_1:List Int) (A0_2:Option Addr) (c0_2:Nat) (l0_2:List Int) (r1:Bool) (r2:List Int) (r3:Bool) (w:World) (hr0_1:Kd.C (Kd.int .u64) w A0_1 l0_1.length l0_1) (hc0_1:l0_1.length≤c0_1) (hr0_2:Kd.C (Kd.int .u64) w A0_2 l0_2.length l0_2) (hc0_2:l0_2.length≤c0_2) (h:ratio_Int.f k a0_0 l0_1 l0_2=some (r1,r2,r3)) :
  Calls Tryz.prog 20 #[.agg #[.bool a0_0,.slice A0_1 l0_1.length c0_1,.slice A0_2 l0_2.length c0_2]] w fun e w'=>∃v1_:Value,e=.returned (.tuple #[.agg #[.bool r1,v1_],.bool r3])∧Kd.R (Kd.int .u64) 72 w' w.heap.size (fun _=>True) v1_ r2∧Below w.heap.size w w':=by
 have hu26:=Tryz.underlying26
 have hu39:=Tryz.underlying39
 have hu101:=Tryz.underlying101
 have hu103:=Tryz.underlying103
 have K:=Kp.refl w
 replace K:=K.parV (Kd.V_mono (ok':=fun _=>True) (Kd.V_mk (e:=72) (base:=0) hc0_1 (Kd.C_F (Kd.heap_int .u64) hr0_1)) (fun _ h=>trivial))
 clear hr0_1 hc0_1
 replace K:=K.parV (Kd.V_mono (ok':=fun _=>True) (Kd.V_mk (e:=72) (base:=0) hc0_2 (Kd.C_F (Kd.heap_int .u64) hr0_2)) (fun _ h=>trivial))
 clear hr0_2 hc0_2
 try simp only[klv]at K
 rw[ratio_Int.f]at h
 replace h:=bindA h
 obtain⟨⟨z5,x6,z7,x8,n9⟩,A10,h⟩:=h
 dsimp only at h
 by_cases c_0:n9=0
 ·rw[if_pos c_0]at h
  have c_0b0:(n9==0)=true:=beq_iff_eq.mpr c_0
  have c_0b1:(n9 != 0)=false:=bne_eq_false_iff_eq.mpr c_0
  clear c_0
  replace h:=bindA h
  obtain⟨⟨z26,x27,z28,x29⟩,A30,h⟩:=h
  dsimp only at h
  go_enter Tryz.func20,Tryz.ntmps20
  go_wp2_with (first|(refine gd 1 rfl ?_;refine kbk 1 #[.bool a0_0,.slice A0_1 l0_1.length c0_1,.slice A0_2 l0_2.length c0_2] 39 K.u ?_;clear K;intro g1 W2 K)|(refine gd 2 rfl ?_;refine kbk 2 #[.bool false,.slice none 0 0] 26 K.u ?_;clear K;intro g3 W4 K;have ua0:=K.cell 0 rfl 0 rfl;have ub0:=K.cell 0 rfl 1 rfl;have uc0:=K.cell 0 rfl 2 rfl)|(refine gd 8 rfl ?_;clear ua0 ub0 uc0;refine kgl (some 8) rfl rfl Tryz.func62 #[.agg #[.bool a0_0,.slice A0_1 l0_1.length c0_1,.slice A0_2 l0_2.length c0_2]] rfl ?_;refine(ratio_made.calls _ a0_0 _ _ _ l0_1 _ _ _ l0_2 z5 x6 z7 x8 n9 _ (K.V 0 rfl) (K.V 1 rfl) A10.out).mono ?_;rintro e W15 ⟨v11,v12,rfl,ho13,ho14,hb⟩;refine⟨_,rfl,?_⟩;have K1:=K.u.add (fun _=>True) hb ho13 (fun _ h=>h.elim (fun h=>h.t) fun h=>h.t);replace K:=K.u.more (fun _=>True) K1 ho14 (fun _ h=>h.elim (fun h=>h.t) fun h=>h.t);clear K1;clear hb ho13 ho14;obtain⟨P16,c17,e18⟩:=K.slice 2 rfl;subst e18;obtain⟨P19,c20,e21⟩:=K.slice 3 rfl;subst e21)|(refine gd 4 rfl ?_;refine kbk 4 #[.bool false,.slice none 0 0,.bool false,.slice none 0 0] 103 K.u ?_;clear K;intro g22 W23 K)|(refine gs 103 4 9 rfl ?_;refine kstN 2 0 [.bool z5,.slice P16 x6.length c17,.bool z7,.slice P19 x8.length c20] K.u rfl ?q25 ?_;(case q25=>intro hc hf;have c0:=hc 0 _ rfl;have f0:=hf 0;have c1:=hc 1 _ rfl;have f1:=hf 1;have c2:=hc 2 _ rfl;have f2:=hf 2;have c3:=hc 3 _ rfl;have f3:=hf 3;clear hc hf;first|(go_simp;done)|(go_simp;rfl));clear K;intro W24 K;simp only[kls,klv,kpl,kss]at K;have ua2:=K.cell 2 rfl 0 rfl;have ub2:=K.cell 2 rfl 1 rfl;have uc2:=K.cell 2 rfl 2 rfl;have ud2:=K.cell 2 rfl 3 rfl)|(refine gd 15 rfl ?_;clear ua2 ub2 uc2 ud2;refine kgl (some 15) rfl rfl Tryz.func68 #[.agg #[.bool z5,.slice P16 x6.length c17,.bool z7,.slice P19 x8.length c20]] rfl ?_;refine(ratio_fraction_low.calls _ z5 _ _ _ x6 z7 _ _ _ x8 z26 x27 z28 x29 _ (K.V 2 rfl) (K.V 3 rfl) A30.out).mono ?_;rintro e W35 ⟨v31,v32,rfl,ho33,ho34,hb⟩;refine⟨_,rfl,?_⟩;replace K:=K.u.addR2 hb (Kd.R_mono ho33 fun _ h=>h.2) (Kd.R_mono ho34 fun _ h=>h.2);clear hb ho33 ho34;obtain⟨P36,c37,e38⟩:=K.slice 4 rfl;subst e38;obtain⟨P39,c40,e41⟩:=K.slice 5 rfl;subst e41)|(refine gs 103 4 15 rfl ?_;refine kstN 2 0 [.bool z26,.slice P36 x27.length c37,.bool z28,.slice P39 x29.length c40] K.u rfl ?q43 ?_;(case q43=>intro hc hf;have c0:=hc 0 _ rfl;have f0:=hf 0;have c1:=hc 1 _ rfl;have f1:=hf 1;have c2:=hc 2 _ rfl;have f2:=hf 2;have c3:=hc 3 _ rfl;have f3:=hf 3;clear hc hf;first|(go_simp;done)|(go_simp;rfl));clear K;intro W42 K;simp only[kls,klv,kpl,kss]at K))
  replace h:=bindA h
  obtain⟨⟨z44,x45⟩,A46,h⟩:=h
  dsimp only at h
  replace h:=bindA h
  obtain⟨n47,A48,h⟩:=h
  obtain⟨Bs,Vs,Os,hBs,hVs,hOs,K⟩:=K.abs
  have HS:Aside0 (∀l m o W,Kp w (Bs++l) m o W→W.cell? ⟨g22,0,none⟩=some (.bool z26)∧W.cell? ⟨g22,1,none⟩=some (.slice P36 x27.length c37)∧W.cell? ⟨g22,2,none⟩=some (.bool z28)∧W.cell? ⟨g22,3,none⟩=some (.slice P39 x29.length c40)):=⟨fun l m o W K=>by rw[hBs.out]at K;exact⟨K.cell 2 rfl 0 rfl,K.cell 2 rfl 1 rfl,K.cell 2 rfl 2 rfl,K.cell 2 rfl 3 rfl⟩⟩
  refine kpstart (n:=6) (ds:=[]) (S:=fun W=>W.cell? ⟨g22,0,none⟩=some (.bool z26)∧W.cell? ⟨g22,1,none⟩=some (.slice P36 x27.length c37)∧W.cell? ⟨g22,2,none⟩=some (.bool z28)∧W.cell? ⟨g22,3,none⟩=some (.slice P39 x29.length c40)) (bm_ 6 0) (by kernel_rfl) rfl rfl K (HS.out [] _ _) (fun W50 K hH=>?_)
  refine pu_ 0 16 ?_ (bm_ 6 1) rfl rfl (by kernel_rfl) (fun _ _ _ h=>h) (by rfl) ?_ ?_ ?_ ?_
  rotate_left
  ·intro w'
   go_simp
   with_reducible rfl
  rotate_left
  ·simp only[Act.put,kss,i64_w,i32_w]
   rfl
  refine pu_ 1 17 ?_ (bm_ 6 3) rfl rfl (by kernel_rfl) (fun _ _ _ h=>h) (by rfl) ?_ ?_ ?_ ?_
  rotate_left
  ·intro w'
   go_simp
   with_reducible rfl
  rotate_left
  ·simp only[Act.put,kss,i64_w,i32_w]
   rfl
  refine tk_ 2 18 ?_ (bm_ 6 7) rfl rfl (by kernel_rfl) (fun _ _ _ h=>h) (by rfl) ?_ hH ?_ ?_ ?_
  rotate_left
  ·rintro w' ⟨s0,s1,s2,s3⟩
   go_simp
   with_reducible rfl
  rotate_left
  ·simp only[Act.put,kss,i64_w,i32_w]
   rfl
  refine one_ (i:=3) (N:=some 19) (bm_ 6 15) rfl rfl (by kernel_rfl) (by decide) (fun Kc hK=>?_)
  refine kgo Tryz.func38 #[.int .i64 1] (by rfl) rfl rfl ?_
  refine(whole_Of.calls _ 1 z44 x45 _ A46.out).mono ?_
  rintro e W' ⟨v49,rfl,ho51,hb⟩
  replace K:=K.addRI 0 0 hb ho51 (lb rfl)
  clear hb ho51
  refine⟨_,rfl,hK.out _ _ (HS.out _ _ _ _ K) fun hH=>?_⟩
  clear hK Kc
  refine norm_ (a':=?_) ?_ ?_
  rotate_left
  ·show Act.put _ (some 19) _=_
   simp only[Act.put,kss,i64_w,i32_w]
   rfl
  refine one_ (i:=4) (N:=some 20) (bm_ 6 31) rfl rfl (by kernel_rfl) (by decide) (fun Kc hK=>?_)
  obtain⟨P52,c53,e54⟩:=K.slice 6 (hv hVs rfl)
  subst e54
  refine kgo Tryz.func16 #[.agg #[.bool z28,.slice P39 x29.length c40],.agg #[.bool z44,.slice P52 x45.length c53]] (by rfl) rfl rfl ?_
  refine(whole_Cmp.calls _ z28 _ _ x29 z44 _ _ x45 n47 _ (K.C 5 (hv hVs rfl)) (K.le 5 (hv hVs rfl)) (K.C 6 (hv hVs rfl)) (K.le 6 (hv hVs rfl)) A48.out).mono ?_
  rintro e W' ⟨rfl,hb⟩
  replace K:=K.up hb
  clear hb
  refine⟨_,rfl,hK.out _ _ (HS.out _ _ _ _ K) fun hH=>?_⟩
  refine norm_ (a':=?_) ?_ ?_
  rotate_left
  ·show Act.put _ (some 20) _=_
   simp only[Act.put,kss,i64_w,i32_w]
   rfl
  refine pu_ 5 21 ?_ (bm_ 6 63) rfl rfl (by kernel_rfl) (fun _ _ _ h=>h) (by rfl) ?_ ?_ ?_ ?_
  rotate_left
  ·intro w'
   go_simp
   with_reducible rfl
  rotate_left
  ·simp only[Act.put,kss,i64_w,i32_w]
   rfl
  clear hK Kc
  rw[hBs.out,hVs.out,hOs.out]at K
  simp only[kls,klv]at K
  clear hBs hVs hOs HS hH
  refine done_ (by kernel_rfl) ?_
  by_cases c_1:n47=0
  ·rw[if_pos c_1]at h
   have c_1b0:(n47==0)=true:=beq_iff_eq.mpr c_1
   have c_1b1:(n47 != 0)=false:=bne_eq_false_iff_eq.mpr c_1
   clear c_1
   simp only[Option.some.injEq,Prod.mk.injEq]at h
   obtain⟨rfl,rfl,rfl⟩:=h
   have ua2:=K.cell 2 rfl 0 rfl
   have ub2:=K.cell 2 rfl 1 rfl
   have uc2:=K.cell 2 rfl 2 rfl
   have ud2:=K.cell 2 rfl 3 rfl
   go_wp2_with (first|(refine gs 26 2 25 rfl ?_;clear ua2 ub2 uc2 ud2;refine ks2 1 (.bool z26) (.slice P36 x27.length c37) K.u rfl ?_;clear K;intro W55 K;simp only[kls,klv]at K))
   refine bodyPost_ret (results_list (rs:=[.cell 2 26,.tmp 3]) rfl (by simp) (.cell g3 26 #[.bool z26,.slice P36 x27.length c37] (0,0) _ rfl (K.u.heap 1 rfl) Tryz.underlying26 rfl (by kernel_rfl) (.tmp .nil))) rfl ?_
   exact⟨_,rfl,K.u.R 0 rfl,K.u.below⟩
  rw[if_neg c_1]at h
  have c_1b0:(n47==0)=false:=beq_eq_false_iff_ne.mpr c_1
  have c_1b1:(n47 != 0)=true:=bne_iff_ne.mpr c_1
  clear c_1
  simp only[Option.some.injEq,Prod.mk.injEq]at h
  obtain⟨rfl,rfl,rfl⟩:=h
  go_wp2_with (first|(refine gs 26 2 22 rfl ?_;refine ks2 1 (.bool false) (.slice none 0 0) K.u rfl ?_;clear K;intro W55 K;simp only[kls,klv]at K))
  refine bodyPost_ret (results_list (rs:=[.cell 2 26,.tmp 3]) rfl (by simp) (.cell g3 26 #[.bool false,.slice none 0 0] (0,0) _ rfl (K.u.heap 1 rfl) Tryz.underlying26 rfl (by kernel_rfl) (.tmp .nil))) rfl ?_
  exact⟨_,rfl,Kd.R_nil _ _ _ _ _,K.u.below⟩
 rw[if_neg c_0]at h
 have c_0b0:(n9==0)=false:=beq_eq_false_iff_ne.mpr c_0
 have c_0b1:(n9 != 0)=true:=bne_iff_ne.mpr c_0
 clear c_0
 simp only[Option.some.injEq,Prod.mk.injEq]at h
 obtain⟨rfl,rfl,rfl⟩:=h
 go_enter Tryz.func20,Tryz.ntmps20
 go_wp2_with (first|(refine gd 1 rfl ?_;refine kbk 1 #[.bool a0_0,.slice A0_1 l0_1.length c0_1,.slice A0_2 l0_2.length c0_2] 39 K.u ?_;clear K;intro g1 W2 K)|(refine gd 2 rfl ?_;refine kbk 2 #[.bool false,.slice none 0 0] 26 K.u ?_;clear K;intro g3 W4 K;have ua0:=K.cell 0 rfl 0 rfl;have ub0:=K.cell 0 rfl 1 rfl;have uc0:=K.cell 0 rfl 2 rfl)|(refine gd 8 rfl ?_;clear ua0 ub0 uc0;refine kgl (some 8) rfl rfl Tryz.func62 #[.agg #[.bool a0_0,.slice A0_1 l0_1.length c0_1,.slice A0_2 l0_2.length c0_2]] rfl ?_;refine(ratio_made.calls _ a0_0 _ _ _ l0_1 _ _ _ l0_2 z5 x6 z7 x8 n9 _ (K.V 0 rfl) (K.V 1 rfl) A10.out).mono ?_;rintro e W15 ⟨v11,v12,rfl,ho13,ho14,hb⟩;refine⟨_,rfl,?_⟩;have K1:=K.u.add (fun _=>True) hb ho13 (fun _ h=>h.elim (fun h=>h.t) fun h=>h.t);replace K:=K.u.more (fun _=>True) K1 ho14 (fun _ h=>h.elim (fun h=>h.t) fun h=>h.t);clear K1;clear hb ho13 ho14;obtain⟨P16,c17,e18⟩:=K.slice 2 rfl;subst e18;obtain⟨P19,c20,e21⟩:=K.slice 3 rfl;subst e21)|(refine gd 4 rfl ?_;refine kbk 4 #[.bool false,.slice none 0 0,.bool false,.slice none 0 0] 103 K.u ?_;clear K;intro g22 W23 K)|(refine gs 103 4 9 rfl ?_;refine kstN 2 0 [.bool z5,.slice P16 x6.length c17,.bool z7,.slice P19 x8.length c20] K.u rfl ?q25 ?_;(case q25=>intro hc hf;have c0:=hc 0 _ rfl;have f0:=hf 0;have c1:=hc 1 _ rfl;have f1:=hf 1;have c2:=hc 2 _ rfl;have f2:=hf 2;have c3:=hc 3 _ rfl;have f3:=hf 3;clear hc hf;first|(go_simp;done)|(go_simp;rfl));clear K;intro W24 K;simp only[kls,klv,kpl,kss]at K)|(refine gs 26 2 13 rfl ?_;refine ks2 1 (.bool false) (.slice none 0 0) K.u rfl ?_;clear K;intro W26 K;simp only[kls,klv]at K))
 refine bodyPost_ret (results_list (rs:=[.cell 2 26,.tmp 3]) rfl (by simp) (.cell g3 26 #[.bool false,.slice none 0 0] (0,0) _ rfl (K.u.heap 1 rfl) Tryz.underlying26 rfl (by kernel_rfl) (.tmp .nil))) rfl ?_
 exact⟨_,rfl,Kd.R_nil _ _ _ _ _,K.u.below⟩
def tribunalref03_gcd.l0:Nat→Bool→List Int→Bool→List Int→Option (Bool×List Int)
 | 0,_,_,_,_=>none
 | k+1,x827000,x827001,x828000,x828001=>if(x828001.length:Int)>0 then((tribunalref02_Cut.f k x827000 x827001 x828000 x828001).bind fun bt829=>((tribunalref02_Make.f k false bt829.2.2.2).bind fun bt839=>(tribunalref03_gcd.l0 k x828000 x828001 bt839.1 bt839.2))) else((tribunalref02_Make.f k false x827001).bind fun bt843=>(some (bt843.1,bt843.2)))
def tribunalref03_gcd.f (k:Nat) (a0_0:Bool) (l0_1:List Int) (a1_0:Bool) (l1_1:List Int):Option (Bool×List Int):=tribunalref03_gcd.l0 k a0_0 l0_1 a1_0 l1_1
def KV.cls (P:Nat→Prop) (v:KV):KV:=⟨v.kd,v.e,v.v,v.xs,P⟩
def okAll (vs:List KV) (m:Nat) (P:Nat→Prop):List Nat→Prop
 | []=>True
 | i::is=>(∃v,vs[i]? = some v∧∀k,v.ok k∨m≤k→P k)∧okAll vs m P is
theorem okAll.at {vs:List KV} {m:Nat} {P:Nat→Prop}:∀ {is:List Nat},okAll vs m P is→∀i∈is,∀v,vs[i]? = some v→∀k,v.ok k∨m≤k→P k
 | j::is,⟨⟨v0,e0,h0⟩,h⟩,i,hi,v,hv=>by
  rcases List.mem_cons.1 hi with rfl|hi
  ·rw[e0]at hv;cases hv;exact h0
  exact okAll.at h i hi v hv
theorem carryP {w W:World} {bs:List Bx} {vs os:List KV} (K:Kp w bs vs os W) (n:Nat) (P:Nat→Prop) (is:List Nat) (h:okAll vs w.heap.size P is):Kp w bs (vs.take n++is.filterMap fun i=>(vs[i]?).map (KV.cls P)) os W:=
 ⟨K.below,K.blk,K.nod,fun v hv=>by
  rcases List.mem_append.1 hv with hv|hv
  ·exact K.val v (List.mem_of_mem_take hv)
  obtain⟨i,hi,hv⟩:=List.mem_filterMap.1 hv
  obtain⟨v0,h0,rfl⟩:=Option.map_eq_some_iff.1 hv
  exact Kd.V_mono (K.val v0 (List.mem_of_getElem? h0)) fun k hk=>⟨.inl (okAll.at h i hi v0 h0 k hk.1),hk.2⟩,K.own,K.sep⟩
theorem tribunalref03_gcd.calls (k:Nat) (a0_0:Bool) (P0_1_:Nat→Prop) (A0_1:Option Addr) (c0_1:Nat) (l0_1:List Int) (a1_0:Bool) (P1_1_:Nat→Prop) (A1_1:Option Addr) (c1_1:Nat) (l1_1:List Int) (r1:Bool) (r2:List Int) (w:World) (hs0_1:Kd.V (Kd.int .u16) 115 w w.heap.size (fun k_=>P0_1_ k_) (.slice A0_1 l0_1.length c0_1) l0_1) (hs1_1:Kd.V (Kd.int .u16) 115 w w.heap.size (fun k_=>P1_1_ k_) (.slice A1_1 l1_1.length c1_1) l1_1) (h:tribunalref03_gcd.f k a0_0 l0_1 a1_0 l1_1=some (r1,r2)) :
  Calls Tryz.prog 82 #[.agg #[.bool a0_0,.slice A0_1 l0_1.length c0_1],.agg #[.bool a1_0,.slice A1_1 l1_1.length c1_1]] w fun e w'=>∃v1_:Value,e=.returned (.agg #[.bool r1,v1_])∧Kd.V (Kd.int .u16) 115 w' w.heap.size (fun k_=>((P0_1_ k_∨P1_1_ k_)∨w.heap.size≤k_)) v1_ r2∧Below w.heap.size w w':=by
 have hu85:=Tryz.underlying85
 have K:=Kp.refl w
 replace K:=K.parV (Kd.V_mono (ok':=fun k=>P0_1_ k) hs0_1 (fun _ h=>h))
 clear hs0_1
 replace K:=K.parV (Kd.V_mono (ok':=fun k=>P1_1_ k) hs1_1 (fun _ h=>h))
 clear hs1_1
 try simp only[klv]at K
 rw[tribunalref03_gcd.f]at h
 go_enter Tryz.func82,Tryz.ntmps82
 go_wp2_with (first|(refine gd 2 rfl ?_;refine kbk 2 #[.bool a0_0,.slice A0_1 l0_1.length c0_1] 85 K.u ?_;clear K;intro g1 W2 K)|(refine gd 3 rfl ?_;refine kbk 3 #[.bool a1_0,.slice A1_1 l1_1.length c1_1] 85 K.u ?_;clear K;intro g3 W4 K)|(refine gd 4 rfl ?_;refine kbk 4 #[.bool false,.slice none 0 0] 85 K.u ?_;clear K;intro g5 W6 K))
 try go_wp2
 refine normC (a':=?_) ?_ ?_
 rotate_left
 ·try simp only[Act.put,kss]
  rfl
 obtain⟨Vl,Ol,hVl,hOl⟩:=K.names
 have HK0:=Aside0.mk (carryP (K) 2 (fun k=>(P0_1_ k∨P1_1_ k)∨w.heap.size≤k) [0,1] ⟨⟨_,rfl,fun k h=>by first|exact h.elim id .inr|exact h.elim (fun h=>.inl (.inl h)) .inr|exact h.elim (fun h=>.inl (.inr h)) .inr|exact h.elim False.elim .inr|exact h.elim (fun h=>.inl h) .inr⟩,⟨_,rfl,fun k h=>by first|exact h.elim id .inr|exact h.elim (fun h=>.inl (.inl h)) .inr|exact h.elim (fun h=>.inl (.inr h)) .inr|exact h.elim False.elim .inr|exact h.elim (fun h=>.inl h) .inr⟩,trivial⟩)
 clear K
 replace h:=Aside0.mk h
 go_loopg [] k (fun kq13 w'=>∃(z7:Bool) (y8:List Int) (z10:Bool) (y11:List Int) (u9 u12:Value),Aside0 (tribunalref03_gcd.l0 kq13 z7 y8 z10 y11=some (r1,r2))∧Aside0 (kq13≤k)∧Aside0 (Kp w [(g1,#[.bool z7,u9],85),(g3,#[.bool z10,u12],85),(g5,#[.bool false,.slice none 0 0],85)] (Vl++[⟨Kd.int .u16,115,u9,y8,fun k=>(P0_1_ k∨P1_1_ k)∨w.heap.size≤k⟩,⟨Kd.int .u16,115,u12,y11,fun k=>(P0_1_ k∨P1_1_ k)∨w.heap.size≤k⟩]) Ol w'))
 case atStart=>exact⟨_,_,_,_,_,_,h,⟨Nat.le_refl _⟩,⟨HK0.out.reV hVl hOl rfl⟩⟩
 case round=>
  obtain⟨z7,y8,z10,y11,u9,u12,HA,HK1,HK⟩:=hrel
  clear h HK0
  have h:=HA.out
  have K:=HK.out
  clear HA HK
  rw[hVl.out,hOl.out]at K
  simp only[klv]at K
  cases gk with
  | zero=>exact absurd h (by simp[tribunalref03_gcd.l0])
  | succ k1=>
   rw[tribunalref03_gcd.l0]at h
   obtain⟨P14,c15,e16⟩:=K.slice 2 rfl
   subst e16
   obtain⟨P17,c18,e19⟩:=K.slice 3 rfl
   subst e19
   by_cases c_0:(y11.length:Int)>0
   ·rw[if_pos c_0]at h
    have c_0b:decide ((y11.length:Int)>0)=true:=decide_eq_true c_0
    replace h:=bindA h
    obtain⟨⟨z20,x21,z22,x23⟩,A24,h⟩:=h
    dsimp only at h
    obtain⟨ua1,ub1⟩:=K.cell2 1 rfl
    obtain⟨ua0,ub0⟩:=K.cell2 0 rfl
    go_wp2_with (first|(refine gd 14 rfl ?_;clear ua1 ub1 ua0 ub0;refine kgl (some 14) rfl rfl Tryz.func130 #[.agg #[.bool z7,.slice P14 y8.length c15],.agg #[.bool z10,.slice P17 y11.length c18]] rfl ?_;refine(tribunalref02_Cut.calls _ z7 _ _ y8 z10 _ _ y11 z20 x21 z22 x23 _ (K.C 2 rfl) (K.le 2 rfl) (K.C 3 rfl) (K.le 3 rfl) A24.out).mono ?_;rintro e W29 ⟨v25,v26,rfl,ho27,ho28,hb⟩;refine⟨_,rfl,?_⟩;have K1:=K.u.addF (fun _=>False) hb ho27;replace K:=K.u.moreF (fun _=>False) K1 ho28;clear K1;clear hb ho27 ho28;obtain⟨P30,c31,e32⟩:=K.slice 4 rfl;subst e32;obtain⟨P33,c34,e35⟩:=K.slice 5 rfl;subst e35)|(refine gd 5 rfl ?_;refine kbk 5 #[.bool false,.slice none 0 0] 85 K.u ?_;clear K;intro g36 W37 K)|(refine gd 6 rfl ?_;refine kbk 6 #[.bool false,.slice none 0 0] 85 K.u ?_;clear K;intro g38 W39 K)|(refine gs 85 5 15 rfl ?_;refine ks2 3 (.bool z20) (.slice P30 x21.length c31) K.u rfl ?_;clear K;intro W40 K;simp only[kls,klv]at K)|(refine gs 85 6 16 rfl ?_;refine ks2 4 (.bool z22) (.slice P33 x23.length c34) K.u rfl ?_;clear K;intro W42 K;simp only[kls,klv]at K))
    replace h:=bindA h
    obtain⟨⟨z44,x45⟩,A46,h⟩:=h
    dsimp only at h
    obtain⟨Bs,Vs,Os,hBs,hVs,hOs,K⟩:=K.abs
    have HS:Aside0 (∀l m o W,Kp w (Bs++l) m o W→W.cell? ⟨g3,0,none⟩=some (.bool z10)∧W.cell? ⟨g3,1,none⟩=some (.slice P17 y11.length c18)∧W.cell? ⟨g38,0,none⟩=some (.bool z22)∧W.cell? ⟨g38,1,none⟩=some (.slice P33 x23.length c34)):=⟨fun l m o W K=>by rw[hBs.out]at K;exact⟨K.cell 1 rfl 0 rfl,K.cell 1 rfl 1 rfl,K.cell 4 rfl 0 rfl,K.cell 4 rfl 1 rfl⟩⟩
    refine kpstart (n:=6) (ds:=[5]) (S:=fun W=>W.cell? ⟨g3,0,none⟩=some (.bool z10)∧W.cell? ⟨g3,1,none⟩=some (.slice P17 y11.length c18)∧W.cell? ⟨g38,0,none⟩=some (.bool z22)∧W.cell? ⟨g38,1,none⟩=some (.slice P33 x23.length c34)) (bm_ 6 0) (by kernel_rfl) rfl rfl K (HS.out [] _ _) (fun W48 K hH=>?_)
    refine tk_ 0 17 ?_ (bm_ 6 1) rfl rfl (by kernel_rfl) (fun _ _ _ h=>h) (by rfl) ?_ hH ?_ ?_ ?_
    rotate_left
    ·rintro w' ⟨s0,s1,s2,s3⟩
     go_simp
     with_reducible rfl
    rotate_left
    ·simp only[Act.put,kss,i64_w,i32_w]
     rfl
    refine pu_ 1 18 ?_ (bm_ 6 3) rfl rfl (by kernel_rfl) (fun _ _ _ h=>h) (by rfl) ?_ ?_ ?_ ?_
    rotate_left
    ·intro w'
     go_simp
     with_reducible rfl
    rotate_left
    ·simp only[Act.put,kss,i64_w,i32_w]
     rfl
    refine tk_ 2 19 ?_ (bm_ 6 7) rfl rfl (by kernel_rfl) (fun _ _ _ h=>h) (by rfl) ?_ hH ?_ ?_ ?_
    rotate_left
    ·rintro w' ⟨s0,s1,s2,s3⟩
     go_simp
     with_reducible rfl
    rotate_left
    ·simp only[Act.put,kss,i64_w,i32_w]
     rfl
    refine one_ (i:=3) (N:=some 20) (bm_ 6 15) rfl rfl (by kernel_rfl) (by decide) (fun Kc hK=>?_)
    refine kgo Tryz.func51 #[.bool false,.slice P33 x23.length c34] (by rfl) rfl rfl ?_
    refine(tribunalref02_Make.calls _ false _ _ _ x23 z44 x45 _ (K.V 5 (hv hVs rfl)) A46.out).mono ?_
    rintro e W' ⟨v47,rfl,ho49,hb⟩
    replace K:=K.addI 0 (fun _=>False) hb ho49 (fun _ h=>h)
    clear hb ho49
    refine⟨_,rfl,hK.out _ _ (HS.out _ _ _ _ K) fun hH=>?_⟩
    clear hK Kc
    refine norm_ (a':=?_) ?_ ?_
    rotate_left
    ·show Act.put _ (some 20) _=_
     simp only[Act.put,kss,i64_w,i32_w]
     rfl
    obtain⟨P50,c51,e52⟩:=K.slice 6 (hv hVs rfl)
    subst e52
    rw[hBs.out,hVs.out,hOs.out]at K
    simp only[kls,klv]at K
    clear hBs hVs hOs HS hH
    refine ko2 (i:=4) (bm_ 6 31) 0 (.bool z10) (.slice P17 y11.length c18) K rfl rfl rfl (by kernel_rfl) (by decide) (by rfl) (fun W K=>⟨K.cell 1 rfl 0 rfl,K.cell 1 rfl 1 rfl,K.cell 4 rfl 0 rfl,K.cell 4 rfl 1 rfl⟩) ?_
    clear K
    intro W53 K
    simp only[kls,klv]at K
    refine klast2 (i:=5) (bm_ 6 63) 1 (.bool z44) (.slice P50 x45.length c51) K rfl rfl rfl (by kernel_rfl) (by decide) (by rfl) ?_ ?_
    ·intro c0 c1 f0 f1
     first|(go_simp;done)|(go_simp;rfl)
    clear K
    intro W54 K
    simp only[kls,klv]at K
    refine done_ (by kernel_rfl) ?_
    go_wp2
    have HK0:=Aside0.mk (carryP (K.front 3) 2 (fun k=>(P0_1_ k∨P1_1_ k)∨w.heap.size≤k) [3,6] ⟨⟨_,rfl,fun k h=>by first|exact h.elim id .inr|exact h.elim (fun h=>.inl (.inl h)) .inr|exact h.elim (fun h=>.inl (.inr h)) .inr|exact h.elim False.elim .inr|exact h.elim (fun h=>.inl h) .inr⟩,⟨_,rfl,fun k h=>by first|exact h.elim id .inr|exact h.elim (fun h=>.inl (.inl h)) .inr|exact h.elim (fun h=>.inl (.inr h)) .inr|exact h.elim False.elim .inr|exact h.elim (fun h=>.inl h) .inr⟩,trivial⟩)
    clear K
    replace h:=Aside0.mk h
    go_roundg k1
    case measure=>have:=HK1.out;omega
    case rel=>exact⟨_,_,_,_,_,_,h,⟨by have:=HK1.out;omega⟩,⟨HK0.out.reV hVl hOl rfl⟩⟩
   rw[if_neg c_0]at h
   have c_0b:decide ((y11.length:Int)>0)=false:=decide_eq_false c_0
   replace h:=bindA h
   obtain⟨⟨z20,x21⟩,A22,h⟩:=h
   dsimp only at h
   simp only[Option.some.injEq,Prod.mk.injEq]at h
   obtain⟨rfl,rfl⟩:=h
   obtain⟨ua1,ub1⟩:=K.cell2 1 rfl
   obtain⟨ua0,ub0⟩:=K.cell2 0 rfl
   go_wp2_with (first|(refine gd 23 rfl ?_;clear ua1 ub1 ua0 ub0;refine kgl (some 23) rfl rfl Tryz.func51 #[.bool false,.slice P14 y8.length c15] rfl ?_;refine(tribunalref02_Make.calls _ false _ _ _ y8 z20 x21 _ (K.V 2 rfl) A22.out).mono ?_;rintro e W25 ⟨v23,rfl,ho24,hb⟩;refine⟨_,rfl,?_⟩;replace K:=K.u.add (fun k=>(P0_1_ k∨P1_1_ k)∨w.heap.size≤k) hb ho24 (fun _ h=>h);clear hb ho24;obtain⟨P26,c27,e28⟩:=K.slice 4 rfl;subst e28)|(refine gs 85 4 23 rfl ?_;refine ks2 2 (.bool z20) (.slice P26 x21.length c27) K.u rfl ?_;clear K;intro W29 K;simp only[kls,klv]at K))
   refine bodyPost_ret (results_single rfl (.cell g5 85 #[.bool z20,.slice P26 x21.length c27] (0,0) _ rfl (K.u.heap 2 rfl) Tryz.underlying85 rfl (by kernel_rfl) .nil)) rfl ?_
   exact⟨_,rfl,K.u.hand 4 rfl (fun k_ h=>h.elim id .inr),K.u.below⟩
def tribunalref02_Minus.f (k:Nat) (a0_0:Bool) (l0_1:List Int):Option (Bool×List Int):=(tribunalref02_Make.f k (!a0_0) l0_1).bind fun bt849=>(some (bt849.1,bt849.2))
theorem tribunalref02_Minus.calls (k:Nat) (a0_0:Bool) (P0_1_:Nat→Prop) (A0_1:Option Addr) (c0_1:Nat) (l0_1:List Int) (r1:Bool) (r2:List Int) (w:World) (hs0_1:Kd.V (Kd.int .u16) 115 w w.heap.size (fun k_=>P0_1_ k_) (.slice A0_1 l0_1.length c0_1) l0_1) (h:tribunalref02_Minus.f k a0_0 l0_1=some (r1,r2)) :
  Calls Tryz.prog 134 #[.agg #[.bool a0_0,.slice A0_1 l0_1.length c0_1]] w fun e w'=>∃v1_:Value,e=.returned (.agg #[.bool r1,v1_])∧Kd.V (Kd.int .u16) 115 w' w.heap.size (fun k_=>(P0_1_ k_∨w.heap.size≤k_)) v1_ r2∧Below w.heap.size w w':=by
 have hu85:=Tryz.underlying85
 have K:=Kp.refl w
 replace K:=K.parV (Kd.V_mono (ok':=fun k=>P0_1_ k) hs0_1 (fun _ h=>h))
 clear hs0_1
 try simp only[klv]at K
 rw[tribunalref02_Minus.f]at h
 replace h:=bindA h
 obtain⟨⟨z5,x6⟩,A7,h⟩:=h
 dsimp only at h
 simp only[Option.some.injEq,Prod.mk.injEq]at h
 obtain⟨rfl,rfl⟩:=h
 go_enter Tryz.func134,Tryz.ntmps134
 go_wp2_with (first|(refine gd 1 rfl ?_;refine kbk 1 #[.bool a0_0,.slice A0_1 l0_1.length c0_1] 85 K.u ?_;clear K;intro g1 W2 K)|(refine gd 2 rfl ?_;refine kbk 2 #[.bool false,.slice none 0 0] 85 K.u ?_;clear K;intro g3 W4 K;obtain⟨ua0,ub0⟩:=K.cell2 0 rfl)|(refine gd 8 rfl ?_;clear ua0 ub0;refine kgl (some 8) rfl rfl Tryz.func51 #[.bool !a0_0,.slice A0_1 l0_1.length c0_1] rfl ?_;refine(tribunalref02_Make.calls _ (!a0_0) _ _ _ l0_1 z5 x6 _ (K.V 0 rfl) A7.out).mono ?_;rintro e W10 ⟨v8,rfl,ho9,hb⟩;refine⟨_,rfl,?_⟩;replace K:=K.u.add (fun k=>P0_1_ k) hb ho9 (fun _ h=>h);clear hb ho9;obtain⟨P11,c12,e13⟩:=K.slice 1 rfl;subst e13)|(refine gs 85 2 8 rfl ?_;refine ks2 1 (.bool z5) (.slice P11 x6.length c12) K.u rfl ?_;clear K;intro W14 K;simp only[kls,klv]at K))
 refine bodyPost_ret (results_single rfl (.cell g3 85 #[.bool z5,.slice P11 x6.length c12] (0,0) _ rfl (K.u.heap 1 rfl) Tryz.underlying85 rfl (by kernel_rfl) .nil)) rfl ?_
 exact⟨_,rfl,K.u.hand 1 rfl (fun k_ h=>h.elim (fun h=>.inl h) .inr),K.u.below⟩
def tribunalref03_Low.f (k:Nat) (a0_0:Bool) (l0_1:List Int) (a1_0:Bool) (l1_1:List Int):Option (Bool×List Int×Bool×List Int):=(tribunalref03_gcd.f k a0_0 l0_1 a1_0 l1_1).bind fun bt856=>((tribunalref02_Cut.f k a0_0 l0_1 bt856.1 bt856.2).bind fun bt861=>((tribunalref02_Cut.f k a1_0 l1_1 bt856.1 bt856.2).bind fun bt871=>(if a1_0=true then((tribunalref02_Minus.f k bt861.1 bt861.2.1).bind fun bt881=>((tribunalref02_Minus.f k bt871.1 bt871.2.1).bind fun bt885=>(some (bt881.1,bt881.2,bt885.1,bt885.2)))) else(some (bt861.1,bt861.2.1,bt871.1,bt871.2.1)))))
theorem tribunalref03_Low.calls (k:Nat) (a0_0:Bool) (P0_1_:Nat→Prop) (A0_1:Option Addr) (c0_1:Nat) (l0_1:List Int) (a1_0:Bool) (P1_1_:Nat→Prop) (A1_1:Option Addr) (c1_1:Nat) (l1_1:List Int) (r1:Bool) (r2:List Int) (r3:Bool) (r4:List Int) (w:World) (hs0_1:Kd.V (Kd.int .u16) 115 w w.heap.size (fun k_=>P0_1_ k_) (.slice A0_1 l0_1.length c0_1) l0_1) (hs1_1:Kd.V (Kd.int .u16) 115 w w.heap.size (fun k_=>P1_1_ k_) (.slice A1_1 l1_1.length c1_1) l1_1) (h:tribunalref03_Low.f k a0_0 l0_1 a1_0 l1_1=some (r1,r2,r3,r4)) :
  Calls Tryz.prog 69 #[.agg #[.bool a0_0,.slice A0_1 l0_1.length c0_1],.agg #[.bool a1_0,.slice A1_1 l1_1.length c1_1]] w fun e w'=>∃v1_ v3_:Value,e=.returned (.agg #[.bool r1,v1_,.bool r3,v3_])∧Kd.V (Kd.int .u16) 115 w' w.heap.size (fun k_=>((P0_1_ k_∨P1_1_ k_)∨w.heap.size≤k_)) v1_ r2∧Kd.V (Kd.int .u16) 115 w' w.heap.size (fun k_=>((P0_1_ k_∨P1_1_ k_)∨w.heap.size≤k_)) v3_ r4∧Below w.heap.size w w':=by
 have hu85:=Tryz.underlying85
 have hu108:=Tryz.underlying108
 have K:=Kp.refl w
 replace K:=K.parV (Kd.V_mono (ok':=fun k=>P0_1_ k) hs0_1 (fun _ h=>h))
 clear hs0_1
 replace K:=K.parV (Kd.V_mono (ok':=fun k=>P1_1_ k) hs1_1 (fun _ h=>h))
 clear hs1_1
 try simp only[klv]at K
 rw[tribunalref03_Low.f]at h
 replace h:=bindA h
 obtain⟨⟨z7,x8⟩,A9,h⟩:=h
 dsimp only at h
 replace h:=bindA h
 obtain⟨⟨z20,x21,z22,x23⟩,A24,h⟩:=h
 dsimp only at h
 replace h:=bindA h
 obtain⟨⟨z44,x45,z46,x47⟩,A48,h⟩:=h
 dsimp only at h
 by_cases c_0:a1_0=true
 ·subst c_0
  rw[if_pos rfl]at h
  go_enter Tryz.func69,Tryz.ntmps69
  go_wp2_with (first|(refine gd 2 rfl ?_;refine kbk 2 #[.bool a0_0,.slice A0_1 l0_1.length c0_1] 85 K.u ?_;clear K;intro g1 W2 K)|(refine gd 3 rfl ?_;refine kbk 3 #[.bool true,.slice A1_1 l1_1.length c1_1] 85 K.u ?_;clear K;intro g3 W4 K)|(refine gd 4 rfl ?_;refine kbk 4 #[.bool false,.slice none 0 0,.bool false,.slice none 0 0] 108 K.u ?_;clear K;intro g5 W6 K;obtain⟨ua0,ub0⟩:=K.cell2 0 rfl;obtain⟨ua1,ub1⟩:=K.cell2 1 rfl)|(refine gd 12 rfl ?_;clear ua0 ub0 ua1 ub1;refine kgl (some 12) rfl rfl Tryz.func82 #[.agg #[.bool a0_0,.slice A0_1 l0_1.length c0_1],.agg #[.bool true,.slice A1_1 l1_1.length c1_1]] rfl ?_;refine(tribunalref03_gcd.calls _ a0_0 _ _ _ l0_1 true _ _ _ l1_1 z7 x8 _ (K.V 0 rfl) (K.V 1 rfl) A9.out).mono ?_;rintro e W12 ⟨v10,rfl,ho11,hb⟩;refine⟨_,rfl,?_⟩;replace K:=K.u.add (fun k=>(fun k=>P0_1_ k) k∨(fun k=>P1_1_ k) k) hb ho11 (fun _ h=>h.elim (fun h=>h.l) fun h=>h.r);clear hb ho11;obtain⟨P13,c14,e15⟩:=K.slice 2 rfl;subst e15)|(refine gd 5 rfl ?_;refine kbk 5 #[.bool false,.slice none 0 0] 85 K.u ?_;clear K;intro g16 W17 K)|(refine gs 85 5 12 rfl ?_;refine ks2 3 (.bool z7) (.slice P13 x8.length c14) K.u rfl ?_;clear K;intro W18 K;simp only[kls,klv]at K;obtain⟨ua0,ub0⟩:=K.cell2 0 rfl;obtain⟨ua3,ub3⟩:=K.cell2 3 rfl)|(refine gd 16 rfl ?_;clear ua0 ub0 ua3 ub3;refine kgl (some 16) rfl rfl Tryz.func130 #[.agg #[.bool a0_0,.slice A0_1 l0_1.length c0_1],.agg #[.bool z7,.slice P13 x8.length c14]] rfl ?_;refine(tribunalref02_Cut.calls _ a0_0 _ _ l0_1 z7 _ _ x8 z20 x21 z22 x23 _ (K.C 0 rfl) (K.le 0 rfl) (K.C 2 rfl) (K.le 2 rfl) A24.out).mono ?_;rintro e W29 ⟨v25,v26,rfl,ho27,ho28,hb⟩;refine⟨_,rfl,?_⟩;have K1:=K.u.addF (fun _=>False) hb ho27;replace K:=K.u.moreF (fun _=>False) K1 ho28;clear K1;clear hb ho27 ho28;obtain⟨P30,c31,e32⟩:=K.slice 3 rfl;subst e32;obtain⟨P33,c34,e35⟩:=K.slice 4 rfl;subst e35)|(refine gd 6 rfl ?_;refine kbk 6 #[.bool false,.slice none 0 0] 85 K.u ?_;clear K;intro g36 W37 K)|(refine gd 7 rfl ?_;refine kbk 7 #[.bool false,.slice none 0 0] 85 K.u ?_;clear K;intro g38 W39 K)|(refine gs 85 6 17 rfl ?_;refine ks2 4 (.bool z20) (.slice P30 x21.length c31) K.u rfl ?_;clear K;intro W40 K;simp only[kls,klv]at K)|(refine gs 85 7 18 rfl ?_;refine ks2 5 (.bool z22) (.slice P33 x23.length c34) K.u rfl ?_;clear K;intro W42 K;simp only[kls,klv]at K;obtain⟨ua1,ub1⟩:=K.cell2 1 rfl;obtain⟨ua3,ub3⟩:=K.cell2 3 rfl)|(refine gd 22 rfl ?_;clear ua1 ub1 ua3 ub3;refine kgl (some 22) rfl rfl Tryz.func130 #[.agg #[.bool true,.slice A1_1 l1_1.length c1_1],.agg #[.bool z7,.slice P13 x8.length c14]] rfl ?_;refine(tribunalref02_Cut.calls _ true _ _ l1_1 z7 _ _ x8 z44 x45 z46 x47 _ (K.C 1 rfl) (K.le 1 rfl) (K.C 2 rfl) (K.le 2 rfl) A48.out).mono ?_;rintro e W53 ⟨v49,v50,rfl,ho51,ho52,hb⟩;refine⟨_,rfl,?_⟩;have K1:=K.u.addF (fun _=>False) hb ho51;replace K:=K.u.moreF (fun _=>False) K1 ho52;clear K1;clear hb ho51 ho52;obtain⟨P54,c55,e56⟩:=K.slice 5 rfl;subst e56;obtain⟨P57,c58,e59⟩:=K.slice 6 rfl;subst e59)|(refine gd 8 rfl ?_;refine kbk 8 #[.bool false,.slice none 0 0] 85 K.u ?_;clear K;intro g60 W61 K)|(refine gd 9 rfl ?_;refine kbk 9 #[.bool false,.slice none 0 0] 85 K.u ?_;clear K;intro g62 W63 K)|(refine gs 85 8 23 rfl ?_;refine ks2 6 (.bool z44) (.slice P54 x45.length c55) K.u rfl ?_;clear K;intro W64 K;simp only[kls,klv]at K)|(refine gs 85 9 24 rfl ?_;refine ks2 7 (.bool z46) (.slice P57 x47.length c58) K.u rfl ?_;clear K;intro W66 K;simp only[kls,klv]at K;obtain⟨ua1,ub1⟩:=K.cell2 1 rfl))
  clear ua1 ub1
  replace h:=bindA h
  obtain⟨⟨z68,x69⟩,A70,h⟩:=h
  dsimp only at h
  replace h:=bindA h
  obtain⟨⟨z71,x72⟩,A73,h⟩:=h
  dsimp only at h
  obtain⟨Bs,Vs,Os,hBs,hVs,hOs,K⟩:=K.abs
  have HS:Aside0 (∀l m o W,Kp w (Bs++l) m o W→W.cell? ⟨g36,0,none⟩=some (.bool z20)∧W.cell? ⟨g36,1,none⟩=some (.slice P30 x21.length c31)∧W.cell? ⟨g60,0,none⟩=some (.bool z44)∧W.cell? ⟨g60,1,none⟩=some (.slice P54 x45.length c55)):=⟨fun l m o W K=>by rw[hBs.out]at K;exact⟨K.cell 4 rfl 0 rfl,K.cell 4 rfl 1 rfl,K.cell 6 rfl 0 rfl,K.cell 6 rfl 1 rfl⟩⟩
  refine kpstart (n:=6) (ds:=[4,5]) (S:=fun W=>W.cell? ⟨g36,0,none⟩=some (.bool z20)∧W.cell? ⟨g36,1,none⟩=some (.slice P30 x21.length c31)∧W.cell? ⟨g60,0,none⟩=some (.bool z44)∧W.cell? ⟨g60,1,none⟩=some (.slice P54 x45.length c55)) (bm_ 6 0) (by kernel_rfl) rfl rfl K (HS.out [] _ _) (fun W76 K hH=>?_)
  refine tk_ 0 27 ?_ (bm_ 6 1) rfl rfl (by kernel_rfl) (fun _ _ _ h=>h) (by rfl) ?_ hH ?_ ?_ ?_
  rotate_left
  ·rintro w' ⟨s0,s1,s2,s3⟩
   go_simp
   with_reducible rfl
  rotate_left
  ·simp only[Act.put,kss,i64_w,i32_w]
   rfl
  refine tk_ 2 29 ?_ (bm_ 6 5) rfl rfl (by kernel_rfl) (fun _ _ _ h=>h) (by rfl) ?_ hH ?_ ?_ ?_
  rotate_left
  ·rintro w' ⟨s0,s1,s2,s3⟩
   go_simp
   with_reducible rfl
  rotate_left
  ·simp only[Act.put,kss,i64_w,i32_w]
   rfl
  refine one_ (i:=1) (N:=some 28) (bm_ 6 7) rfl rfl (by kernel_rfl) (by decide) (fun Kc hK=>?_)
  refine kgo Tryz.func134 #[.agg #[.bool z20,.slice P30 x21.length c31]] (by rfl) rfl rfl ?_
  refine(tribunalref02_Minus.calls _ z20 _ _ _ x21 z68 x69 _ (K.V 3 (hv hVs rfl)) A70.out).mono ?_
  rintro e W' ⟨v74,rfl,ho77,hb⟩
  replace K:=K.addI 0 (fun _=>False) hb ho77 (fun _ h=>h)
  clear hb ho77
  refine⟨_,rfl,hK.out _ _ (HS.out _ _ _ _ K) fun hH=>?_⟩
  clear hK Kc
  refine norm_ (a':=?_) ?_ ?_
  rotate_left
  ·show Act.put _ (some 28) _=_
   simp only[Act.put,kss,i64_w,i32_w]
   rfl
  refine one_ (i:=3) (N:=some 30) (bm_ 6 15) rfl rfl (by kernel_rfl) (by decide) (fun Kc hK=>?_)
  refine kgo Tryz.func134 #[.agg #[.bool z44,.slice P54 x45.length c55]] (by rfl) rfl rfl ?_
  refine(tribunalref02_Minus.calls _ z44 _ _ _ x45 z71 x72 _ (K.V 5 (hv hVs rfl)) A73.out).mono ?_
  rintro e W' ⟨v75,rfl,ho78,hb⟩
  replace K:=K.addI 1 (fun _=>False) hb ho78 (fun _ h=>h)
  clear hb ho78
  refine⟨_,rfl,hK.out _ _ (HS.out _ _ _ _ K) fun hH=>?_⟩
  clear hK Kc
  refine norm_ (a':=?_) ?_ ?_
  rotate_left
  ·show Act.put _ (some 30) _=_
   simp only[Act.put,kss,i64_w,i32_w]
   rfl
  obtain⟨P79,c80,e81⟩:=K.slice 7 (hv hVs rfl)
  subst e81
  obtain⟨P82,c83,e84⟩:=K.slice 8 (hv hVs rfl)
  subst e84
  rw[hBs.out,hVs.out,hOs.out]at K
  simp only[kls,klv]at K
  clear hBs hVs hOs HS hH
  refine klast2 (i:=4) (bm_ 6 31) 4 (.bool z68) (.slice P79 x69.length c80) K rfl rfl rfl (by kernel_rfl) (by decide) (by rfl) ?_ ?_
  ·intro c0 c1 f0 f1
   first|(go_simp;done)|(go_simp;rfl)
  clear K
  intro W85 K
  simp only[kls,klv]at K
  refine klast2 (i:=5) (bm_ 6 63) 6 (.bool z71) (.slice P82 x72.length c83) K rfl rfl rfl (by kernel_rfl) (by decide) (by rfl) ?_ ?_
  ·intro c0 c1 f0 f1
   first|(go_simp;done)|(go_simp;rfl)
  clear K
  intro W86 K
  simp only[kls,klv]at K
  refine done_ (by kernel_rfl) ?_
  simp only[Option.some.injEq,Prod.mk.injEq]at h
  obtain⟨rfl,rfl,rfl,rfl⟩:=h
  obtain⟨ua4,ub4⟩:=K.cell2 4 rfl
  obtain⟨ua6,ub6⟩:=K.cell2 6 rfl
  go_wp2_with (first|(refine gs 108 4 33 rfl ?_;clear ua4 ub4 ua6 ub6;refine kstN 2 0 [.bool z68,.slice P79 x69.length c80,.bool z71,.slice P82 x72.length c83] K.u rfl ?q88 ?_;(case q88=>intro hc hf;have c0:=hc 0 _ rfl;have f0:=hf 0;have c1:=hc 1 _ rfl;have f1:=hf 1;have c2:=hc 2 _ rfl;have f2:=hf 2;have c3:=hc 3 _ rfl;have f3:=hf 3;clear hc hf;first|(go_simp;done)|(go_simp;rfl));clear K;intro W87 K;simp only[kls,klv,kpl,kss]at K))
  refine bodyPost_ret (results_single rfl (.cell g5 108 #[.bool z68,.slice P79 x69.length c80,.bool z71,.slice P82 x72.length c83] (0,0) _ rfl (K.u.heap 2 rfl) Tryz.underlying108 rfl (by kernel_rfl) .nil)) rfl ?_
  exact⟨_,_,rfl,K.u.hand 7 rfl (fun k_ h=>h.elim (fun h=>h.elim) .inr),K.u.hand 8 rfl (fun k_ h=>h.elim (fun h=>h.elim) .inr),K.u.below⟩
 replace c_0:=Bool.eq_false_iff.mpr c_0
 subst c_0
 rw[if_neg (by decide)]at h
 simp only[Option.some.injEq,Prod.mk.injEq]at h
 obtain⟨rfl,rfl,rfl,rfl⟩:=h
 go_enter Tryz.func69,Tryz.ntmps69
 go_wp2_with (first|(refine gd 2 rfl ?_;refine kbk 2 #[.bool a0_0,.slice A0_1 l0_1.length c0_1] 85 K.u ?_;clear K;intro g1 W2 K)|(refine gd 3 rfl ?_;refine kbk 3 #[.bool false,.slice A1_1 l1_1.length c1_1] 85 K.u ?_;clear K;intro g3 W4 K)|(refine gd 4 rfl ?_;refine kbk 4 #[.bool false,.slice none 0 0,.bool false,.slice none 0 0] 108 K.u ?_;clear K;intro g5 W6 K;obtain⟨ua0,ub0⟩:=K.cell2 0 rfl;obtain⟨ua1,ub1⟩:=K.cell2 1 rfl)|(refine gd 12 rfl ?_;clear ua0 ub0 ua1 ub1;refine kgl (some 12) rfl rfl Tryz.func82 #[.agg #[.bool a0_0,.slice A0_1 l0_1.length c0_1],.agg #[.bool false,.slice A1_1 l1_1.length c1_1]] rfl ?_;refine(tribunalref03_gcd.calls _ a0_0 _ _ _ l0_1 false _ _ _ l1_1 z7 x8 _ (K.V 0 rfl) (K.V 1 rfl) A9.out).mono ?_;rintro e W12 ⟨v10,rfl,ho11,hb⟩;refine⟨_,rfl,?_⟩;replace K:=K.u.add (fun k=>(fun k=>P0_1_ k) k∨(fun k=>P1_1_ k) k) hb ho11 (fun _ h=>h.elim (fun h=>h.l) fun h=>h.r);clear hb ho11;obtain⟨P13,c14,e15⟩:=K.slice 2 rfl;subst e15)|(refine gd 5 rfl ?_;refine kbk 5 #[.bool false,.slice none 0 0] 85 K.u ?_;clear K;intro g16 W17 K)|(refine gs 85 5 12 rfl ?_;refine ks2 3 (.bool z7) (.slice P13 x8.length c14) K.u rfl ?_;clear K;intro W18 K;simp only[kls,klv]at K;obtain⟨ua0,ub0⟩:=K.cell2 0 rfl;obtain⟨ua3,ub3⟩:=K.cell2 3 rfl)|(refine gd 16 rfl ?_;clear ua0 ub0 ua3 ub3;refine kgl (some 16) rfl rfl Tryz.func130 #[.agg #[.bool a0_0,.slice A0_1 l0_1.length c0_1],.agg #[.bool z7,.slice P13 x8.length c14]] rfl ?_;refine(tribunalref02_Cut.calls _ a0_0 _ _ l0_1 z7 _ _ x8 z20 x21 z22 x23 _ (K.C 0 rfl) (K.le 0 rfl) (K.C 2 rfl) (K.le 2 rfl) A24.out).mono ?_;rintro e W29 ⟨v25,v26,rfl,ho27,ho28,hb⟩;refine⟨_,rfl,?_⟩;have K1:=K.u.addF (fun _=>False) hb ho27;replace K:=K.u.moreF (fun _=>False) K1 ho28;clear K1;clear hb ho27 ho28;obtain⟨P30,c31,e32⟩:=K.slice 3 rfl;subst e32;obtain⟨P33,c34,e35⟩:=K.slice 4 rfl;subst e35)|(refine gd 6 rfl ?_;refine kbk 6 #[.bool false,.slice none 0 0] 85 K.u ?_;clear K;intro g36 W37 K)|(refine gd 7 rfl ?_;refine kbk 7 #[.bool false,.slice none 0 0] 85 K.u ?_;clear K;intro g38 W39 K)|(refine gs 85 6 17 rfl ?_;refine ks2 4 (.bool z20) (.slice P30 x21.length c31) K.u rfl ?_;clear K;intro W40 K;simp only[kls,klv]at K)|(refine gs 85 7 18 rfl ?_;refine ks2 5 (.bool z22) (.slice P33 x23.length c34) K.u rfl ?_;clear K;intro W42 K;simp only[kls,klv]at K;obtain⟨ua1,ub1⟩:=K.cell2 1 rfl;obtain⟨ua3,ub3⟩:=K.cell2 3 rfl)|(refine gd 22 rfl ?_;clear ua1 ub1 ua3 ub3;refine kgl (some 22) rfl rfl Tryz.func130 #[.agg #[.bool false,.slice A1_1 l1_1.length c1_1],.agg #[.bool z7,.slice P13 x8.length c14]] rfl ?_;refine(tribunalref02_Cut.calls _ false _ _ l1_1 z7 _ _ x8 z44 x45 z46 x47 _ (K.C 1 rfl) (K.le 1 rfl) (K.C 2 rfl) (K.le 2 rfl) A48.out).mono ?_;rintro e W53 ⟨v49,v50,rfl,ho51,ho52,hb⟩;refine⟨_,rfl,?_⟩;have K1:=K.u.addF (fun _=>False) hb ho51;replace K:=K.u.moreF (fun _=>False) K1 ho52;clear K1;clear hb ho51 ho52;obtain⟨P54,c55,e56⟩:=K.slice 5 rfl;subst e56;obtain⟨P57,c58,e59⟩:=K.slice 6 rfl;subst e59)|(refine gd 8 rfl ?_;refine kbk 8 #[.bool false,.slice none 0 0] 85 K.u ?_;clear K;intro g60 W61 K)|(refine gd 9 rfl ?_;refine kbk 9 #[.bool false,.slice none 0 0] 85 K.u ?_;clear K;intro g62 W63 K)|(refine gs 85 8 23 rfl ?_;refine ks2 6 (.bool z44) (.slice P54 x45.length c55) K.u rfl ?_;clear K;intro W64 K;simp only[kls,klv]at K)|(refine gs 85 9 24 rfl ?_;refine ks2 7 (.bool z46) (.slice P57 x47.length c58) K.u rfl ?_;clear K;intro W66 K;simp only[kls,klv]at K;obtain⟨ua1,ub1⟩:=K.cell2 1 rfl;obtain⟨ua4,ub4⟩:=K.cell2 4 rfl;obtain⟨ua6,ub6⟩:=K.cell2 6 rfl)|(refine gs 108 4 33 rfl ?_;clear ua1 ub1 ua4 ub4 ua6 ub6;refine kstN 2 0 [.bool z20,.slice P30 x21.length c31,.bool z44,.slice P54 x45.length c55] K.u rfl ?q69 ?_;(case q69=>intro hc hf;have c0:=hc 0 _ rfl;have f0:=hf 0;have c1:=hc 1 _ rfl;have f1:=hf 1;have c2:=hc 2 _ rfl;have f2:=hf 2;have c3:=hc 3 _ rfl;have f3:=hf 3;clear hc hf;first|(go_simp;done)|(go_simp;rfl));clear K;intro W68 K;simp only[kls,klv,kpl,kss]at K))
 refine bodyPost_ret (results_single rfl (.cell g5 108 #[.bool z20,.slice P30 x21.length c31,.bool z44,.slice P54 x45.length c55] (0,0) _ rfl (K.u.heap 2 rfl) Tryz.underlying108 rfl (by kernel_rfl) .nil)) rfl ?_
 exact⟨_,_,rfl,K.u.hand 3 rfl (fun k_ h=>h.elim (fun h=>h.elim) .inr),K.u.hand 5 rfl (fun k_ h=>h.elim (fun h=>h.elim) .inr),K.u.below⟩
def tribunalref03_Int.f (k:Nat) (a0_0:Bool) (l0_1:List Int) (l0_2:List Int):Option (Bool×List Int×Bool):=(tribunalref03_From.f k a0_0 l0_1 l0_2).bind fun bt891=>(if bt891.2.2.2.2=0 then((tribunalref03_Low.f k bt891.1 bt891.2.1 bt891.2.2.1 bt891.2.2.2.1).bind fun bt901=>(if(bt901.2.2.2.length:Int)=1 then(if 0<(bt901.2.2.2.length:Int) then(if(rd bt901.2.2.2 0)=1 then((tribunalref02_To.f k bt901.1 bt901.2.1).bind fun bt911=>(some (bt911.1,bt911.2,true))) else(some (false,([]:List Int),false))) else(none)) else(some (false,([]:List Int),false)))) else(some (false,([]:List Int),false)))
theorem tribunalref03_Int.calls (k:Nat) (a0_0:Bool) (A0_1:Option Addr) (c0_1:Nat) (l0_1:List Int) (A0_2:Option Addr) (c0_2:Nat) (l0_2:List Int) (r1:Bool) (r2:List Int) (r3:Bool) (w:World) (hr0_1:Kd.C (Kd.int .u64) w A0_1 l0_1.length l0_1) (hc0_1:l0_1.length≤c0_1) (hr0_2:Kd.C (Kd.int .u64) w A0_2 l0_2.length l0_2) (hc0_2:l0_2.length≤c0_2) (h:tribunalref03_Int.f k a0_0 l0_1 l0_2=some (r1,r2,r3)) :
  Calls Tryz.prog 21 #[.agg #[.bool a0_0,.slice A0_1 l0_1.length c0_1,.slice A0_2 l0_2.length c0_2]] w fun e w'=>∃v1_:Value,e=.returned (.tuple #[.agg #[.bool r1,v1_],.bool r3])∧Kd.R (Kd.int .u64) 72 w' w.heap.size (fun _=>True) v1_ r2∧Below w.heap.size w w':=by
 have hu26:=Tryz.underlying26
 have hu39:=Tryz.underlying39
 have hu85:=Tryz.underlying85
 have hu108:=Tryz.underlying108
 have K:=Kp.refl w
 replace K:=K.parV (Kd.V_mono (ok':=fun _=>True) (Kd.V_mk (e:=72) (base:=0) hc0_1 (Kd.C_F (Kd.heap_int .u64) hr0_1)) (fun _ h=>trivial))
 clear hr0_1 hc0_1
 replace K:=K.parV (Kd.V_mono (ok':=fun _=>True) (Kd.V_mk (e:=72) (base:=0) hc0_2 (Kd.C_F (Kd.heap_int .u64) hr0_2)) (fun _ h=>trivial))
 clear hr0_2 hc0_2
 try simp only[klv]at K
 rw[tribunalref03_Int.f]at h
 replace h:=bindA h
 obtain⟨⟨z5,x6,z7,x8,n9⟩,A10,h⟩:=h
 dsimp only at h
 by_cases c_0:n9=0
 ·rw [if_pos c_0]at h
  have c_0b0:(n9==0)=true:=beq_iff_eq.mpr c_0
  have c_0b1:(n9 != 0)=false:=bne_eq_false_iff_eq.mpr c_0
  clear c_0
  replace h:=bindA h
  obtain⟨⟨z26,x27,z28,x29⟩,A30,h⟩:=h
  dsimp only at h
  by_cases c_1:(x29.length:Int)=1
  ·rw[if_pos c_1]at h
   have c_1b0:((x29.length:Int)==1)=true:=beq_iff_eq.mpr c_1
   have c_1b1:((x29.length:Int) != 1)=false:=bne_eq_false_iff_eq.mpr c_1
   by_cases c_2:0<(x29.length:Int)
   ·rw[if_pos c_2]at h
    have c_2b:decide (0<(x29.length:Int))=true:=decide_eq_true c_2
    by_cases c_3:(rd x29 0)=1
    ·rw[if_pos c_3]at h
     have c_3b0:((rd x29 0)==1)=true:=beq_iff_eq.mpr c_3
     have c_3b1:((rd x29 0) != 1)=false:=bne_eq_false_iff_eq.mpr c_3
     clear c_3
     replace h:=bindA h
     obtain⟨⟨z51,x52⟩,A53,h⟩:=h
     dsimp only at h
     simp only[Option.some.injEq,Prod.mk.injEq]at h
     obtain⟨rfl,rfl,rfl⟩:=h
     go_enter Tryz.func21,Tryz.ntmps21
     go_wp2_with (first|(refine gd 1 rfl ?_;refine kbk 1 #[.bool a0_0,.slice A0_1 l0_1.length c0_1,.slice A0_2 l0_2.length c0_2] 39 K.u ?_;clear K;intro g1 W2 K)|(refine gd 2 rfl ?_;refine kbk 2 #[.bool false,.slice none 0 0] 26 K.u ?_;clear K;intro g3 W4 K;have ua0:=K.cell 0 rfl 0 rfl;have ub0:=K.cell 0 rfl 1 rfl;have uc0:=K.cell 0 rfl 2 rfl)|(refine gd 9 rfl ?_;clear ua0 ub0 uc0;refine kgl (some 9) rfl rfl Tryz.func64 #[.agg #[.bool a0_0,.slice A0_1 l0_1.length c0_1,.slice A0_2 l0_2.length c0_2]] rfl ?_;refine(tribunalref03_From.calls _ a0_0 _ _ l0_1 _ _ l0_2 z5 x6 z7 x8 n9 _ (K.C 0 rfl) (K.le 0 rfl) (K.C 1 rfl) (K.le 1 rfl) A10.out).mono ?_;rintro e W15 ⟨v11,v12,rfl,ho13,ho14,hb⟩;refine⟨_,rfl,?_⟩;have K1:=K.u.addF (fun _=>True) hb ho13;replace K:=K.u.moreF (fun _=>True) K1 ho14;clear K1;clear hb ho13 ho14;obtain⟨P16,c17,e18⟩:=K.slice 2 rfl;subst e18;obtain⟨P19,c20,e21⟩:=K.slice 3 rfl;subst e21)|(refine gd 4 rfl ?_;refine kbk 4 #[.bool false,.slice none 0 0,.bool false,.slice none 0 0] 108 K.u ?_;clear K;intro g22 W23 K)|(refine gs 108 4 10 rfl ?_;refine kstN 2 0 [.bool z5,.slice P16 x6.length c17,.bool z7,.slice P19 x8.length c20] K.u rfl ?q25 ?_;(case q25=>intro hc hf;have c0:=hc 0 _ rfl;have f0:=hf 0;have c1:=hc 1 _ rfl;have f1:=hf 1;have c2:=hc 2 _ rfl;have f2:=hf 2;have c3:=hc 3 _ rfl;have f3:=hf 3;clear hc hf;first|(go_simp;done)|(go_simp;rfl));clear K;intro W24 K;simp only[kls,klv,kpl,kss]at K;have ua2:=K.cell 2 rfl 0 rfl;have ub2:=K.cell 2 rfl 1 rfl;have uc2:=K.cell 2 rfl 2 rfl;have ud2:=K.cell 2 rfl 3 rfl)|(refine gd 19 rfl ?_;clear ua2 ub2 uc2 ud2;refine kgl (some 19) rfl rfl Tryz.func69 #[.agg #[.bool z5,.slice P16 x6.length c17],.agg #[.bool z7,.slice P19 x8.length c20]] rfl ?_;refine(tribunalref03_Low.calls _ z5 _ _ _ x6 z7 _ _ _ x8 z26 x27 z28 x29 _ (K.V 2 rfl) (K.V 3 rfl) A30.out).mono ?_;rintro e W35 ⟨v31,v32,rfl,ho33,ho34,hb⟩;refine⟨_,rfl,?_⟩;have K1:=K.u.add (fun _=>True) hb ho33 (fun _ h=>h.elim (fun h=>h.t) fun h=>h.t);replace K:=K.u.more (fun _=>True) K1 ho34 (fun _ h=>h.elim (fun h=>h.t) fun h=>h.t);clear K1;clear hb ho33 ho34;obtain⟨P36,c37,e38⟩:=K.slice 4 rfl;subst e38;obtain⟨P39,c40,e41⟩:=K.slice 5 rfl;subst e41)|(refine gd 6 rfl ?_;refine kbk 6 #[.bool false,.slice none 0 0,.bool false,.slice none 0 0] 108 K.u ?_;clear K;intro g42 W43 K)|(refine gs 108 6 19 rfl ?_;refine kstN 3 0 [.bool z26,.slice P36 x27.length c37,.bool z28,.slice P39 x29.length c40] K.u rfl ?q45 ?_;(case q45=>intro hc hf;have c0:=hc 0 _ rfl;have f0:=hf 0;have c1:=hc 1 _ rfl;have f1:=hf 1;have c2:=hc 2 _ rfl;have f2:=hf 2;have c3:=hc 3 _ rfl;have f3:=hf 3;clear hc hf;first|(go_simp;done)|(go_simp;rfl));clear K;intro W44 K;simp only[kls,klv,kpl,kss]at K;have ua3:=K.cell 3 rfl 0 rfl;have ub3:=K.cell 3 rfl 1 rfl;have uc3:=K.cell 3 rfl 2 rfl;have ud3:=K.cell 3 rfl 3 rfl;obtain⟨ad46,e47,ue48⟩:=Kd.at_int (K.C 5 rfl) 0 (by decide) c_2;subst e47;have pe49:=eq_true (show(0:Int)≤0 from(by decide));have qe50:=eq_true c_2;rw[show Addr.add ad46 (0:Int).toNat=ad46 from by unfold Addr.add;split<;>simp_all]at ue48)|(refine gd 36 rfl ?_;clear ua3 ub3 uc3 ud3 ue48 pe49 qe50;refine kgl (some 36) rfl rfl Tryz.func65 #[.agg #[.bool z26,.slice P36 x27.length c37]] rfl ?_;refine(tribunalref02_To.calls _ z26 _ _ x27 z51 x52 _ (K.C 4 rfl) (K.le 4 rfl) A53.out).mono ?_;rintro e W56 ⟨v54,rfl,ho55,hb⟩;refine⟨_,rfl,?_⟩;replace K:=K.u.addRE hb ho55;clear hb ho55;obtain⟨P57,c58,e59⟩:=K.slice 6 rfl;subst e59)|(refine gs 26 2 36 rfl ?_;refine ks2 1 (.bool z51) (.slice P57 x52.length c58) K.u rfl ?_;clear K;intro W60 K;simp only[kls,klv]at K))
     refine bodyPost_ret (results_list (rs:=[.cell 2 26,.tmp 3]) rfl (by simp) (.cell g3 26 #[.bool z51,.slice P57 x52.length c58] (0,0) _ rfl (K.u.heap 1 rfl) Tryz.underlying26 rfl (by kernel_rfl) (.tmp .nil))) rfl ?_
     exact⟨_,rfl,K.u.R 0 rfl,K.u.below⟩
    rw[if_neg c_3]at h
    have c_3b0:((rd x29 0)==1)=false:=beq_eq_false_iff_ne.mpr c_3
    have c_3b1:((rd x29 0) != 1)=true:=bne_iff_ne.mpr c_3
    clear c_3
    simp only[Option.some.injEq,Prod.mk.injEq]at h
    obtain⟨rfl,rfl,rfl⟩:=h
    go_enter Tryz.func21,Tryz.ntmps21
    go_wp2_with (first|(refine gd 1 rfl ?_;refine kbk 1 #[.bool a0_0,.slice A0_1 l0_1.length c0_1,.slice A0_2 l0_2.length c0_2] 39 K.u ?_;clear K;intro g1 W2 K)|(refine gd 2 rfl ?_;refine kbk 2 #[.bool false,.slice none 0 0] 26 K.u ?_;clear K;intro g3 W4 K;have ua0:=K.cell 0 rfl 0 rfl;have ub0:=K.cell 0 rfl 1 rfl;have uc0:=K.cell 0 rfl 2 rfl)|(refine gd 9 rfl ?_;clear ua0 ub0 uc0;refine kgl (some 9) rfl rfl Tryz.func64 #[.agg #[.bool a0_0,.slice A0_1 l0_1.length c0_1,.slice A0_2 l0_2.length c0_2]] rfl ?_;refine(tribunalref03_From.calls _ a0_0 _ _ l0_1 _ _ l0_2 z5 x6 z7 x8 n9 _ (K.C 0 rfl) (K.le 0 rfl) (K.C 1 rfl) (K.le 1 rfl) A10.out).mono ?_;rintro e W15 ⟨v11,v12,rfl,ho13,ho14,hb⟩;refine⟨_,rfl,?_⟩;have K1:=K.u.addF (fun _=>True) hb ho13;replace K:=K.u.moreF (fun _=>True) K1 ho14;clear K1;clear hb ho13 ho14;obtain⟨P16,c17,e18⟩:=K.slice 2 rfl;subst e18;obtain⟨P19,c20,e21⟩:=K.slice 3 rfl;subst e21)|(refine gd 4 rfl ?_;refine kbk 4 #[.bool false,.slice none 0 0,.bool false,.slice none 0 0] 108 K.u ?_;clear K;intro g22 W23 K)|(refine gs 108 4 10 rfl ?_;refine kstN 2 0 [.bool z5,.slice P16 x6.length c17,.bool z7,.slice P19 x8.length c20] K.u rfl ?q25 ?_;(case q25=>intro hc hf;have c0:=hc 0 _ rfl;have f0:=hf 0;have c1:=hc 1 _ rfl;have f1:=hf 1;have c2:=hc 2 _ rfl;have f2:=hf 2;have c3:=hc 3 _ rfl;have f3:=hf 3;clear hc hf;first|(go_simp;done)|(go_simp;rfl));clear K;intro W24 K;simp only[kls,klv,kpl,kss]at K;have ua2:=K.cell 2 rfl 0 rfl;have ub2:=K.cell 2 rfl 1 rfl;have uc2:=K.cell 2 rfl 2 rfl;have ud2:=K.cell 2 rfl 3 rfl)|(refine gd 19 rfl ?_;clear ua2 ub2 uc2 ud2;refine kgl (some 19) rfl rfl Tryz.func69 #[.agg #[.bool z5,.slice P16 x6.length c17],.agg #[.bool z7,.slice P19 x8.length c20]] rfl ?_;refine(tribunalref03_Low.calls _ z5 _ _ _ x6 z7 _ _ _ x8 z26 x27 z28 x29 _ (K.V 2 rfl) (K.V 3 rfl) A30.out).mono ?_;rintro e W35 ⟨v31,v32,rfl,ho33,ho34,hb⟩;refine⟨_,rfl,?_⟩;have K1:=K.u.add (fun _=>True) hb ho33 (fun _ h=>h.elim (fun h=>h.t) fun h=>h.t);replace K:=K.u.more (fun _=>True) K1 ho34 (fun _ h=>h.elim (fun h=>h.t) fun h=>h.t);clear K1;clear hb ho33 ho34;obtain⟨P36,c37,e38⟩:=K.slice 4 rfl;subst e38;obtain⟨P39,c40,e41⟩:=K.slice 5 rfl;subst e41)|(refine gd 6 rfl ?_;refine kbk 6 #[.bool false,.slice none 0 0,.bool false,.slice none 0 0] 108 K.u ?_;clear K;intro g42 W43 K)|(refine gs 108 6 19 rfl ?_;refine kstN 3 0 [.bool z26,.slice P36 x27.length c37,.bool z28,.slice P39 x29.length c40] K.u rfl ?q45 ?_;(case q45=>intro hc hf;have c0:=hc 0 _ rfl;have f0:=hf 0;have c1:=hc 1 _ rfl;have f1:=hf 1;have c2:=hc 2 _ rfl;have f2:=hf 2;have c3:=hc 3 _ rfl;have f3:=hf 3;clear hc hf;first|(go_simp;done)|(go_simp;rfl));clear K;intro W44 K;simp only[kls,klv,kpl,kss]at K;have ua3:=K.cell 3 rfl 0 rfl;have ub3:=K.cell 3 rfl 1 rfl;have uc3:=K.cell 3 rfl 2 rfl;have ud3:=K.cell 3 rfl 3 rfl;obtain⟨ad46,e47,ue48⟩:=Kd.at_int (K.C 5 rfl) 0 (by decide) c_2;subst e47;have pe49:=eq_true (show(0:Int)≤0 from(by decide));have qe50:=eq_true c_2;rw[show Addr.add ad46 (0:Int).toNat=ad46 from by unfold Addr.add;split<;>simp_all]at ue48)|(refine gs 26 2 33 rfl ?_;clear ua3 ub3 uc3 ud3 ue48 pe49 qe50;refine ks2 1 (.bool false) (.slice none 0 0) K.u rfl ?_;clear K;intro W51 K;simp only[kls,klv]at K))
    refine bodyPost_ret (results_list (rs:=[.cell 2 26,.tmp 3]) rfl (by simp) (.cell g3 26 #[.bool false,.slice none 0 0] (0,0) _ rfl (K.u.heap 1 rfl) Tryz.underlying26 rfl (by kernel_rfl) (.tmp .nil))) rfl ?_
    exact⟨_,rfl,Kd.R_nil _ _ _ _ _,K.u.below⟩
   rw[if_neg c_2]at h
   exact nomatch h
  rw[if_neg c_1]at h
  have c_1b0:((x29.length:Int)==1)=false:=beq_eq_false_iff_ne.mpr c_1
  have c_1b1:((x29.length:Int) != 1)=true:=bne_iff_ne.mpr c_1
  simp only[Option.some.injEq,Prod.mk.injEq]at h
  obtain⟨rfl,rfl,rfl⟩:=h
  go_enter Tryz.func21,Tryz.ntmps21
  go_wp2_with (first|(refine gd 1 rfl ?_;refine kbk 1 #[.bool a0_0,.slice A0_1 l0_1.length c0_1,.slice A0_2 l0_2.length c0_2] 39 K.u ?_;clear K;intro g1 W2 K)|(refine gd 2 rfl ?_;refine kbk 2 #[.bool false,.slice none 0 0] 26 K.u ?_;clear K;intro g3 W4 K;have ua0:=K.cell 0 rfl 0 rfl;have ub0:=K.cell 0 rfl 1 rfl;have uc0:=K.cell 0 rfl 2 rfl)|(refine gd 9 rfl ?_;clear ua0 ub0 uc0;refine kgl (some 9) rfl rfl Tryz.func64 #[.agg #[.bool a0_0,.slice A0_1 l0_1.length c0_1,.slice A0_2 l0_2.length c0_2]] rfl ?_;refine(tribunalref03_From.calls _ a0_0 _ _ l0_1 _ _ l0_2 z5 x6 z7 x8 n9 _ (K.C 0 rfl) (K.le 0 rfl) (K.C 1 rfl) (K.le 1 rfl) A10.out).mono ?_;rintro e W15 ⟨v11,v12,rfl,ho13,ho14,hb⟩;refine⟨_,rfl,?_⟩;have K1:=K.u.addF (fun _=>True) hb ho13;replace K:=K.u.moreF (fun _=>True) K1 ho14;clear K1;clear hb ho13 ho14;obtain⟨P16,c17,e18⟩:=K.slice 2 rfl;subst e18;obtain⟨P19,c20,e21⟩:=K.slice 3 rfl;subst e21)|(refine gd 4 rfl ?_;refine kbk 4 #[.bool false,.slice none 0 0,.bool false,.slice none 0 0] 108 K.u ?_;clear K;intro g22 W23 K)|(refine gs 108 4 10 rfl ?_;refine kstN 2 0 [.bool z5,.slice P16 x6.length c17,.bool z7,.slice P19 x8.length c20] K.u rfl ?q25 ?_;(case q25=>intro hc hf;have c0:=hc 0 _ rfl;have f0:=hf 0;have c1:=hc 1 _ rfl;have f1:=hf 1;have c2:=hc 2 _ rfl;have f2:=hf 2;have c3:=hc 3 _ rfl;have f3:=hf 3;clear hc hf;first|(go_simp;done)|(go_simp;rfl));clear K;intro W24 K;simp only[kls,klv,kpl,kss]at K;have ua2:=K.cell 2 rfl 0 rfl;have ub2:=K.cell 2 rfl 1 rfl;have uc2:=K.cell 2 rfl 2 rfl;have ud2:=K.cell 2 rfl 3 rfl)|(refine gd 19 rfl ?_;clear ua2 ub2 uc2 ud2;refine kgl (some 19) rfl rfl Tryz.func69 #[.agg #[.bool z5,.slice P16 x6.length c17],.agg #[.bool z7,.slice P19 x8.length c20]] rfl ?_;refine(tribunalref03_Low.calls _ z5 _ _ _ x6 z7 _ _ _ x8 z26 x27 z28 x29 _ (K.V 2 rfl) (K.V 3 rfl) A30.out).mono ?_;rintro e W35 ⟨v31,v32,rfl,ho33,ho34,hb⟩;refine⟨_,rfl,?_⟩;have K1:=K.u.add (fun _=>True) hb ho33 (fun _ h=>h.elim (fun h=>h.t) fun h=>h.t);replace K:=K.u.more (fun _=>True) K1 ho34 (fun _ h=>h.elim (fun h=>h.t) fun h=>h.t);clear K1;clear hb ho33 ho34;obtain⟨P36,c37,e38⟩:=K.slice 4 rfl;subst e38;obtain⟨P39,c40,e41⟩:=K.slice 5 rfl;subst e41)|(refine gd 6 rfl ?_;refine kbk 6 #[.bool false,.slice none 0 0,.bool false,.slice none 0 0] 108 K.u ?_;clear K;intro g42 W43 K)|(refine gs 108 6 19 rfl ?_;refine kstN 3 0 [.bool z26,.slice P36 x27.length c37,.bool z28,.slice P39 x29.length c40] K.u rfl ?q45 ?_;(case q45=>intro hc hf;have c0:=hc 0 _ rfl;have f0:=hf 0;have c1:=hc 1 _ rfl;have f1:=hf 1;have c2:=hc 2 _ rfl;have f2:=hf 2;have c3:=hc 3 _ rfl;have f3:=hf 3;clear hc hf;first|(go_simp;done)|(go_simp;rfl));clear K;intro W44 K;simp only[kls,klv,kpl,kss]at K;have ua3:=K.cell 3 rfl 0 rfl;have ub3:=K.cell 3 rfl 1 rfl;have uc3:=K.cell 3 rfl 2 rfl;have ud3:=K.cell 3 rfl 3 rfl)|(refine gs 26 2 33 rfl ?_;clear ua3 ub3 uc3 ud3;refine ks2 1 (.bool false) (.slice none 0 0) K.u rfl ?_;clear K;intro W46 K;simp only[kls,klv]at K))
  refine bodyPost_ret (results_list (rs:=[.cell 2 26,.tmp 3]) rfl (by simp) (.cell g3 26 #[.bool false,.slice none 0 0] (0,0) _ rfl (K.u.heap 1 rfl) Tryz.underlying26 rfl (by kernel_rfl) (.tmp .nil))) rfl ?_
  exact⟨_,rfl,Kd.R_nil _ _ _ _ _,K.u.below⟩
 rw[if_neg c_0]at h
 have c_0b0:(n9==0)=false:=beq_eq_false_iff_ne.mpr c_0
 have c_0b1:(n9 != 0)=true:=bne_iff_ne.mpr c_0
 clear c_0
 simp only[Option.some.injEq,Prod.mk.injEq]at h
 obtain⟨rfl,rfl,rfl⟩:=h
 go_enter Tryz.func21,Tryz.ntmps21
 go_wp2_with (first|(refine gd 1 rfl ?_;refine kbk 1 #[.bool a0_0,.slice A0_1 l0_1.length c0_1,.slice A0_2 l0_2.length c0_2] 39 K.u ?_;clear K;intro g1 W2 K)|(refine gd 2 rfl ?_;refine kbk 2 #[.bool false,.slice none 0 0] 26 K.u ?_;clear K;intro g3 W4 K;have ua0:=K.cell 0 rfl 0 rfl;have ub0:=K.cell 0 rfl 1 rfl;have uc0:=K.cell 0 rfl 2 rfl)|(refine gd 9 rfl ?_;clear ua0 ub0 uc0;refine kgl (some 9) rfl rfl Tryz.func64 #[.agg #[.bool a0_0,.slice A0_1 l0_1.length c0_1,.slice A0_2 l0_2.length c0_2]] rfl ?_;refine(tribunalref03_From.calls _ a0_0 _ _ l0_1 _ _ l0_2 z5 x6 z7 x8 n9 _ (K.C 0 rfl) (K.le 0 rfl) (K.C 1 rfl) (K.le 1 rfl) A10.out).mono ?_;rintro e W15 ⟨v11,v12,rfl,ho13,ho14,hb⟩;refine⟨_,rfl,?_⟩;have K1:=K.u.addF (fun _=>True) hb ho13;replace K:=K.u.moreF (fun _=>True) K1 ho14;clear K1;clear hb ho13 ho14;obtain⟨P16,c17,e18⟩:=K.slice 2 rfl;subst e18;obtain⟨P19,c20,e21⟩:=K.slice 3 rfl;subst e21)|(refine gd 4 rfl ?_;refine kbk 4 #[.bool false,.slice none 0 0,.bool false,.slice none 0 0] 108 K.u ?_;clear K;intro g22 W23 K)|(refine gs 108 4 10 rfl ?_;refine kstN 2 0 [.bool z5,.slice P16 x6.length c17,.bool z7,.slice P19 x8.length c20] K.u rfl ?q25 ?_;(case q25=>intro hc hf;have c0:=hc 0 _ rfl;have f0:=hf 0;have c1:=hc 1 _ rfl;have f1:=hf 1;have c2:=hc 2 _ rfl;have f2:=hf 2;have c3:=hc 3 _ rfl;have f3:=hf 3;clear hc hf;first|(go_simp;done)|(go_simp;rfl));clear K;intro W24 K;simp only[kls,klv,kpl,kss]at K)|(refine gs 26 2 14 rfl ?_;refine ks2 1 (.bool false) (.slice none 0 0) K.u rfl ?_;clear K;intro W26 K;simp only[kls,klv]at K))
 refine bodyPost_ret (results_list (rs:=[.cell 2 26,.tmp 3]) rfl (by simp) (.cell g3 26 #[.bool false,.slice none 0 0] (0,0) _ rfl (K.u.heap 1 rfl) Tryz.underlying26 rfl (by kernel_rfl) (.tmp .nil))) rfl ?_
 exact⟨_,rfl,Kd.R_nil _ _ _ _ _,K.u.below⟩
end Go.Proofs.YtikencoikigllaaGreatDoor.PRy
