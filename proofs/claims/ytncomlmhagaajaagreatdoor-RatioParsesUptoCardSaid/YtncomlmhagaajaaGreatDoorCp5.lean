/- Part 5 of what the card rests on. -/
import Derived.Laws.Bits64b
import Derived.OpenShut
import Derived.Test.YtncomlmhagaajaaGreatDoorCp4
set_option maxHeartbeats 8000000
set_option maxRecDepth 100000
set_option linter.unusedVariables false
set_option linter.unusedSimpArgs false
namespace Go.Proofs.YtncomlmhagaajaaGreatDoor.PRp
open Go.RowKit Go.Proofs.YtncomlmhagaajaaGreatDoorW.PrintWords Go.Proofs.YtncomlmhagaajaaGreatDoorW.PrintLast Go.Proofs.YtncomlmhagaajaaGreatDoorW.PrintMore
open Go.Proofs.YtncomlmhagaajaaGreatDoor.Mine
attribute [local go_sem] max2_int min2_int max_two min_two max_three min_three max_four min_four
mutual
def tribunalref02_addD.l0:Nat→List Int→List Int→List Int→Int→Int→Option (List Int)
 | 0,_,_,_,_,_=>none
 | k+1,x0,x1,x5,x6,x7=>if x7<(x0.length:Int) then(tribunalref02_addD.j1 k x0 x1 x5 x6 x7 true) else(if x7<(x1.length:Int) then(tribunalref02_addD.j1 k x0 x1 x5 x6 x7 true) else(tribunalref02_addD.j1 k x0 x1 x5 x6 x7 (decide (x6>0))))
def tribunalref02_addD.j1:Nat→List Int→List Int→List Int→Int→Int→Bool→Option (List Int)
 | 0,_,_,_,_,_,_=>none
 | k+1,x0,x1,x5,x6,x7,x21=>if x21=true then(if x7<(x0.length:Int) then(if 0≤x7 then(if x7<(x1.length:Int) then(if x5.length<70368744177664 then(tribunalref02_addD.l0 k x0 x1 (x5++[IntKind.u16.wrap (((x6+(rd x0 x7))+(rd x1 x7))%4294967296)]) ((((x6+(rd x0 x7))+(rd x1 x7))%4294967296)/65536) (wrap64 (x7+1))) else(none)) else(if x5.length<70368744177664 then(tribunalref02_addD.l0 k x0 x1 (x5++[IntKind.u16.wrap ((x6+(rd x0 x7))%4294967296)]) (((x6+(rd x0 x7))%4294967296)/65536) (wrap64 (x7+1))) else(none))) else(none)) else(if x7<(x1.length:Int) then(if 0≤x7 then(if x5.length<70368744177664 then(tribunalref02_addD.l0 k x0 x1 (x5++[IntKind.u16.wrap ((x6+(rd x1 x7))%4294967296)]) (((x6+(rd x1 x7))%4294967296)/65536) (wrap64 (x7+1))) else(none)) else(none)) else(if x5.length<70368744177664 then(tribunalref02_addD.l0 k x0 x1 (x5++[IntKind.u16.wrap (x6)]) (x6/65536) (wrap64 (x7+1))) else(none)))) else(some x5)
end
def tribunalref02_addD.f (k:Nat) (l0:List Int) (l1:List Int):Option (List Int):=tribunalref02_addD.l0 k l0 l1 ([]:List Int) 0 0
theorem tribunalref02_addD.calls (k:Nat) (A0:Option Addr) (c0:Nat) (l0:List Int) (A1:Option Addr) (c1:Nat) (l1:List Int) (r:List Int) (w:World) (hr0:Kd.C (Kd.int .u16) w A0 l0.length l0) (hc0:l0.length≤c0) (hr1:Kd.C (Kd.int .u16) w A1 l1.length l1) (hc1:l1.length≤c1) (h:tribunalref02_addD.f k l0 l1=some r) :
  Calls Tryz.prog 156 #[.slice A0 l0.length c0,.slice A1 l1.length c1] w fun e w'=>∃v0_:Value,e=.returned (v0_)∧Kd.R (Kd.int .u16) 83 w' w.heap.size (fun _=>True) v0_ r∧Below w.heap.size w w':=by
 have HR0:=Aside0.mk hr0
 have HC0:=Aside0.mk hc0
 clear hr0 hc0
 have HR1:=Aside0.mk hr1
 have HC1:=Aside0.mk hc1
 clear hr1 hc1
 have HB:=Aside0.mk (Below.refl w.heap.size w)
 have H:(tribunalref02_addD.l0 k l0 l1 ([]:List Int) 0 0)=some r:=h
 clear h
 have H':=Aside0.mk H
 clear H
 go_enter Tryz.func156,Tryz.ntmps156
 go_wp2
 go_loopg [5,6,7] k (fun kq v5 v6 v7 w'=>∃(ac:List Int) (ab:Int) (aa:Int),v6=.int .u32 ab∧v7=.int .i64 aa∧Aside0 (tribunalref02_addD.l0 kq l0 l1 ac ab aa=some r)∧Aside0 (kq≤k)∧Aside0 (Kd.R (Kd.int .u16) 83 w' w.heap.size (fun _=>True) v5 ac)∧Aside0 (Below w.heap.size w w'))
 case atStart=>exact⟨(([]:List Int)),(0),(0),Y0,Y0,H',⟨Nat.le_refl _⟩,⟨D0⟩,⟨khu HB.out⟩⟩
 case round=>
  clear H'
  try clear c1
  try clear p2
  obtain⟨ac,ab,aa,rfl,rfl,HA,HK1,ae,HB⟩:=hrel
  cases gk with
  | zero=>exact absurd HA.out (by simp[tribunalref02_addD.l0])
  | succ k1=>
   have H:=HA.out
   clear HA
   simp only[tribunalref02_addD.l0]at H
   have HC3:=Aside0.mk H
   clear H
   go_upto_region 4 with(fail)
   go_cut [21] (fun v21 wc=>∃(kq:Nat) (ao:Bool),v21=.bool ao∧Aside0 (tribunalref02_addD.j1 kq l0 l1 ac ab aa ao=some r)∧Aside0 (kq≤k1)∧Aside0 (Kd.R (Kd.int .u16) 83 wc w.heap.size (fun _=>True) u5 ac)∧Aside0 (Below w.heap.size w wc))
   case first=>
    have H:=HC3.out
    clear HC3
    by_cases c4:aa<(l0.length:Int)
    ·rw[if_pos c4]at H
     have an:decide (aa<(l0.length:Int))=true:=decide_eq_true c4
     clear c4
     (first|rw[an]|rw[aA]|(simp only[i64_w,i32_w];rw[an])|skip)
     have H':=Aside0.mk H
     clear H
     go_wp2
     go_meet
     case rel=>exact⟨_,(true),Y0,H',⟨V6⟩,⟨kru ae.out⟩,⟨khu HB.out⟩⟩
    rw[if_neg c4]at H
    have an:decide (aa<(l0.length:Int))=false:=decide_eq_false c4
    clear c4
    (first|rw[an]|rw[aA]|(simp only[i64_w,i32_w];rw[an])|skip)
    by_cases c5:aa<(l1.length:Int)
    ·rw[if_pos c5]at H
     have aC:decide (aa<(l1.length:Int))=true:=decide_eq_true c5
     clear c5
     have H':=Aside0.mk H
     clear H
     go_wp2
     go_meet
     case rel=>exact⟨_,(true),Y0,H',⟨V6⟩,⟨kru ae.out⟩,⟨khu HB.out⟩⟩
    rw[if_neg c5]at H
    have aC:decide (aa<(l1.length:Int))=false:=decide_eq_false c5
    clear c5
    have H':=Aside0.mk H
    clear H
    go_wp2
    go_meet
    case rel=>exact⟨_,(decide (ab>0)),Y0,H',⟨V6⟩,⟨kru ae.out⟩,⟨khu HB.out⟩⟩
   case rest=>
    clear HC3
    try clear c1
    try clear p2
    try clear c4
    try clear an
    try clear aA
    try clear c5
    try clear aC
    try clear p2
    obtain⟨kq,ao,rfl,HA,HJ2,ae,HB⟩:=hcut
    cases kq with
    | zero=>exact absurd HA.out (by simp[tribunalref02_addD.j1])
    | succ kj2=>
     have H:=HA.out
     clear HA
     simp only[tribunalref02_addD.j1]at H
     by_cases c6:ao=true
     ·subst c6
      have H1:(if aa<(l0.length:Int) then(if 0≤aa then(if aa<(l1.length:Int) then(if ac.length<70368744177664 then(tribunalref02_addD.l0 kj2 l0 l1 (ac++[IntKind.u16.wrap (((ab+(rd l0 aa))+(rd l1 aa))%4294967296)]) ((((ab+(rd l0 aa))+(rd l1 aa))%4294967296)/65536) (wrap64 (aa+1))) else(none)) else(if ac.length<70368744177664 then(tribunalref02_addD.l0 kj2 l0 l1 (ac++[IntKind.u16.wrap ((ab+(rd l0 aa))%4294967296)]) (((ab+(rd l0 aa))%4294967296)/65536) (wrap64 (aa+1))) else(none))) else(none)) else(if aa<(l1.length:Int) then(if 0≤aa then(if ac.length<70368744177664 then(tribunalref02_addD.l0 kj2 l0 l1 (ac++[IntKind.u16.wrap ((ab+(rd l1 aa))%4294967296)]) (((ab+(rd l1 aa))%4294967296)/65536) (wrap64 (aa+1))) else(none)) else(none)) else(if ac.length<70368744177664 then(tribunalref02_addD.l0 kj2 l0 l1 (ac++[IntKind.u16.wrap (ab)]) (ab/65536) (wrap64 (aa+1))) else(none))))=some r:=by rw[if_pos rfl]at H;exact H
      clear H
      have H:=H1
      clear H1
      by_cases c7:aa<(l0.length:Int)
      ·rw [if_pos c7]at H
       have aY:decide (aa<(l0.length:Int))=true:=decide_eq_true c7
       clear c7
       by_cases c8:0≤aa
       ·rw[if_pos c8]at H
        have bi:decide (0≤aa)=true:=decide_eq_true c8
        clear c8
        by_cases c9:aa<(l1.length:Int)
        ·rw[if_pos c9]at H
         have aZ:decide (aa<(l1.length:Int))=true:=decide_eq_true c9
         clear c9
         by_cases c10:ac.length<70368744177664
         ·rw[if_pos c10]at H
          have aQ:=Aside0.mk c10
          clear c10
          obtain⟨aw,ah⟩:∃y_:List Int,y_=(ac++[IntKind.u16.wrap (((ab+(rd l0 aa))+(rd l1 aa))%4294967296)]):=⟨_,rfl⟩
          replace H:(tribunalref02_addD.l0 kj2 l0 l1 aw ((((ab+(rd l0 aa))+(rd l1 aa))%4294967296)/65536) (wrap64 (aa+1)))=some r:=by first|(rw[ah];with_reducible exact H)|(have H2_:=(Option.bind_some _ _).symm.trans H;rw[ah];with_reducible exact H2_)|(have H2_:=(Option.bind_some _ _).symm.trans H;with_reducible exact H2_)|with_reducible exact H|(rw[ah];exact H)|exact H
          have aD:=Aside0.mk ah
          clear ah
          have H':=Aside0.mk H
          clear H
          have af:0≤(aa:Int):=of_decide_eq_true ‹_›
          have ag:aa<(l0.length:Int):=of_decide_eq_true ‹_›
          obtain⟨aE,ap,ad⟩:=Kd.at_int HR0.out aa af ag
          cases ap
          replace ad:=(HB.out.cell (World.block_lt_of_cell? w _ ad)).trans ad
          replace af:=eq_true af
          replace ag:=eq_true ag
          have aq:0≤(aa:Int):=of_decide_eq_true ‹_›
          have ar:aa<(l1.length:Int):=of_decide_eq_true ‹_›
          obtain⟨bb,aR,al⟩:=Kd.at_int HR1.out aa aq ar
          cases aR
          replace al:=(HB.out.cell (World.block_lt_of_cell? w _ al)).trans al
          replace aq:=eq_true aq
          replace ar:=eq_true ar
          go_wp2_with (first|((with_reducible refine gate_builtin (b:=.append) (xs:=#[.tmp 46,.tmp 49]) rfl ?_);(try(refine gate_guard F1 ?_;dsimp only));at_builtin;refine Kd.R_append (Kd.int .u16) (w0:=w) w.heap.size rfl (.tmp 46) (.tmp 49) 71 83 (.int .u16 0) 2 rfl Tryz.underlying71 info83 rfl J0 Z0 u5 ac (IntKind.u16.wrap (((ab+(rd l0 aa))+(rd l1 aa))%4294967296)) [.int .u16 (IntKind.u16.wrap (((ab+(rd l0 aa))+(rd l1 aa))%4294967296))] (fun _=>True) (fun _=>False) rfl rfl ?aP (fun _ hk=>hk.elim) ?aF ?aO ?aB ?aS ?aL ?_;(case aP=>exact rfl);(case aB=>exact(khu HB.out));(case aF=>exact(fun _ _=>trivial));(case aO=>exact(kru ae.out));(case aS=>exact(below_size (khu HB.out)));(case aL=>have:=aQ.out;omega);intro bd w11 ho hb hg hat;rw[←aD.out]at ho;replace HB:=Aside0.mk (hb);have aG:=Aside0.mk (ho);clear ae;clear ho hb hg hat))
          go_roundg kj2
          case measure=>have:=HK1.out;have:=HJ2.out;omega
          case rel=>exact⟨(aw),((((ab+(rd l0 aa))+(rd l1 aa))%4294967296)/65536),(wrap64 (aa+1)),Y0,Y0,H',⟨D8⟩,⟨kru aG.out⟩,⟨khu HB.out⟩⟩
         rw[if_neg c10]at H
         exact absurd H Z1
        rw[if_neg c9]at H
        have aZ:decide (aa<(l1.length:Int))=false:=decide_eq_false c9
        clear c9
        by_cases c12:ac.length<70368744177664
        ·rw[if_pos c12]at H
         have aT:=Aside0.mk c12
         clear c12
         obtain⟨ax,ai⟩:∃y_:List Int,y_=(ac++[IntKind.u16.wrap ((ab+(rd l0 aa))%4294967296)]):=⟨_,rfl⟩
         replace H:(tribunalref02_addD.l0 kj2 l0 l1 ax (((ab+(rd l0 aa))%4294967296)/65536) (wrap64 (aa+1)))=some r:=by first|(rw[ai];with_reducible exact H)|(have H2_:=(Option.bind_some _ _).symm.trans H;rw[ai];with_reducible exact H2_)|(have H2_:=(Option.bind_some _ _).symm.trans H;with_reducible exact H2_)|with_reducible exact H|(rw[ai];exact H)|exact H
         have aH:=Aside0.mk ai
         clear ai
         have H':=Aside0.mk H
         clear H
         have af:0≤(aa:Int):=of_decide_eq_true ‹_›
         have ag:aa<(l0.length:Int):=of_decide_eq_true ‹_›
         obtain⟨aE,ap,ad⟩:=Kd.at_int HR0.out aa af ag
         cases ap
         replace ad:=(HB.out.cell (World.block_lt_of_cell? w _ ad)).trans ad
         replace af:=eq_true af
         replace ag:=eq_true ag
         go_wp2_with (first|((with_reducible refine gate_builtin (b:=.append) (xs:=#[.tmp 46,.tmp 49]) rfl ?_);(try(refine gate_guard F1 ?_;dsimp only));at_builtin;refine Kd.R_append (Kd.int .u16) (w0:=w) w.heap.size rfl (.tmp 46) (.tmp 49) 71 83 (.int .u16 0) 2 rfl Tryz.underlying71 info83 rfl J0 Z0 u5 ac (IntKind.u16.wrap ((ab+(rd l0 aa))%4294967296)) [.int .u16 (IntKind.u16.wrap ((ab+(rd l0 aa))%4294967296))] (fun _=>True) (fun _=>False) rfl rfl ?aP (fun _ hk=>hk.elim) ?aF ?aO ?aB ?aS ?aL ?_;(case aP=>exact rfl);(case aB=>exact(khu HB.out));(case aF=>exact(fun _ _=>trivial));(case aO=>exact(kru ae.out));(case aS=>exact(below_size (khu HB.out)));(case aL=>have:=aT.out;omega);intro be w13 ho hb hg hat;rw[←aH.out]at ho;replace HB:=Aside0.mk (hb);have aI:=Aside0.mk (ho);clear ae;clear ho hb hg hat))
         go_roundg kj2
         case measure=>have:=HK1.out;have:=HJ2.out;omega
         case rel=>exact⟨(ax),(((ab+(rd l0 aa))%4294967296)/65536),(wrap64 (aa+1)),Y0,Y0,H',⟨D8⟩,⟨kru aI.out⟩,⟨khu HB.out⟩⟩
        rw[if_neg c12]at H
        exact absurd H Z1
       rw[if_neg c8]at H
       exact absurd H Z1
      rw[if_neg c7]at H
      have aY:decide (aa<(l0.length:Int))=false:=decide_eq_false c7
      clear c7
      by_cases c14:aa<(l1.length:Int)
      ·rw[if_pos c14]at H
       have aU:decide (aa<(l1.length:Int))=true:=decide_eq_true c14
       clear c14
       by_cases c15:0≤aa
       ·rw[if_pos c15]at H
        have bf:decide (0≤aa)=true:=decide_eq_true c15
        clear c15
        by_cases c16:ac.length<70368744177664
        ·rw[if_pos c16]at H
         have aV:=Aside0.mk c16
         clear c16
         obtain⟨ay,aj⟩:∃y_:List Int,y_=(ac++[IntKind.u16.wrap ((ab+(rd l1 aa))%4294967296)]):=⟨_,rfl⟩
         replace H:(tribunalref02_addD.l0 kj2 l0 l1 ay (((ab+(rd l1 aa))%4294967296)/65536) (wrap64 (aa+1)))=some r:=by first|(rw[aj];with_reducible exact H)|(have H2_:=(Option.bind_some _ _).symm.trans H;rw[aj];with_reducible exact H2_)|(have H2_:=(Option.bind_some _ _).symm.trans H;with_reducible exact H2_)|with_reducible exact H|(rw[aj];exact H)|exact H
         have aJ:=Aside0.mk aj
         clear aj
         have H':=Aside0.mk H
         clear H
         have au:0≤(aa:Int):=of_decide_eq_true ‹_›
         have av:aa<(l1.length:Int):=of_decide_eq_true ‹_›
         obtain⟨bc,aW,am⟩:=Kd.at_int HR1.out aa au av
         cases aW
         replace am:=(HB.out.cell (World.block_lt_of_cell? w _ am)).trans am
         replace au:=eq_true au
         replace av:=eq_true av
         go_wp2_with (first|((with_reducible refine gate_builtin (b:=.append) (xs:=#[.tmp 46,.tmp 49]) rfl ?_);(try(refine gate_guard F1 ?_;dsimp only));at_builtin;refine Kd.R_append (Kd.int .u16) (w0:=w) w.heap.size rfl (.tmp 46) (.tmp 49) 71 83 (.int .u16 0) 2 rfl Tryz.underlying71 info83 rfl J0 Z0 u5 ac (IntKind.u16.wrap ((ab+(rd l1 aa))%4294967296)) [.int .u16 (IntKind.u16.wrap ((ab+(rd l1 aa))%4294967296))] (fun _=>True) (fun _=>False) rfl rfl ?aP (fun _ hk=>hk.elim) ?aF ?aO ?aB ?aS ?aL ?_;(case aP=>exact rfl);(case aB=>exact(khu HB.out));(case aF=>exact(fun _ _=>trivial));(case aO=>exact(kru ae.out));(case aS=>exact(below_size (khu HB.out)));(case aL=>have:=aV.out;omega);intro bg w17 ho hb hg hat;rw[←aJ.out]at ho;replace HB:=Aside0.mk (hb);have aK:=Aside0.mk (ho);clear ae;clear ho hb hg hat))
         go_roundg kj2
         case measure=>have:=HK1.out;have:=HJ2.out;omega
         case rel=>exact⟨(ay),(((ab+(rd l1 aa))%4294967296)/65536),(wrap64 (aa+1)),Y0,Y0,H',⟨D8⟩,⟨kru aK.out⟩,⟨khu HB.out⟩⟩
        rw[if_neg c16]at H
        exact absurd H Z1
       rw[if_neg c15]at H
       exact absurd H Z1
      rw[if_neg c14]at H
      have aU:decide (aa<(l1.length:Int))=false:=decide_eq_false c14
      clear c14
      by_cases c18:ac.length<70368744177664
      ·rw[if_pos c18]at H
       have aX:=Aside0.mk c18
       clear c18
       obtain⟨az,ak⟩:∃y_:List Int,y_=(ac++[IntKind.u16.wrap (ab)]):=⟨_,rfl⟩
       replace H:(tribunalref02_addD.l0 kj2 l0 l1 az (ab/65536) (wrap64 (aa+1)))=some r:=by first|(rw[ak];with_reducible exact H)|(have H2_:=(Option.bind_some _ _).symm.trans H;rw[ak];with_reducible exact H2_)|(have H2_:=(Option.bind_some _ _).symm.trans H;with_reducible exact H2_)|with_reducible exact H|(rw[ak];exact H)|exact H
       have aM:=Aside0.mk ak
       clear ak
       have H':=Aside0.mk H
       clear H
       go_wp2_with (first|((with_reducible refine gate_builtin (b:=.append) (xs:=#[.tmp 46,.tmp 49]) rfl ?_);(try(refine gate_guard F1 ?_;dsimp only));at_builtin;refine Kd.R_append (Kd.int .u16) (w0:=w) w.heap.size rfl (.tmp 46) (.tmp 49) 71 83 (.int .u16 0) 2 rfl Tryz.underlying71 info83 rfl J0 Z0 u5 ac (IntKind.u16.wrap (ab)) [.int .u16 (IntKind.u16.wrap (ab))] (fun _=>True) (fun _=>False) rfl rfl ?aP (fun _ hk=>hk.elim) ?aF ?aO ?aB ?aS ?aL ?_;(case aP=>exact rfl);(case aB=>exact(khu HB.out));(case aF=>exact(fun _ _=>trivial));(case aO=>exact(kru ae.out));(case aS=>exact(below_size (khu HB.out)));(case aL=>have:=aX.out;omega);intro bh w19 ho hb hg hat;rw[←aM.out]at ho;replace HB:=Aside0.mk (hb);have aN:=Aside0.mk (ho);clear ae;clear ho hb hg hat))
       go_roundg kj2
       case measure=>have:=HK1.out;have:=HJ2.out;omega
       case rel=>exact⟨(az),(ab/65536),(wrap64 (aa+1)),Y0,Y0,H',⟨D8⟩,⟨kru aN.out⟩,⟨khu HB.out⟩⟩
      rw[if_neg c18]at H
      exact absurd H Z1
     replace c6:=Bool.eq_false_iff.mpr c6
     subst c6
     have H1:(some ac)=some r:=by rw[if_neg (show ¬(false=true) by decide)]at H;exact H
     clear H
     have H:=H1
     clear H1
     obtain rfl:=Option.some.inj H
     go_wp2
     go_ret
     exact⟨_,B0,kru ae.out,khu HB.out⟩
theorem w_u8 (x:Int):wrap64 (IntKind.u8.wrap x)=x%256:=by
 rw[show IntKind.u8.wrap x=x%256 from by simp[IntKind.wrap,IntKind.bits,IntKind.signed]]
 simp only[wrap64]
 omega
mutual
def tribunalref02_Read.l0:Nat→ByteArray→Int→Bool→Option (Bool×List Int×Bool)
 | 0,_,_,_=>none
 | k+1,x0,x5,x1116000=>if x5<(x0.size:Int) then(if 0≤x5 then(if(bt x0 x5)<48 then(some (false,([]:List Int),false)) else(if(bt x0 x5)>57 then(some (false,([]:List Int),false)) else(tribunalref02_Read.l0 k x0 (wrap64 (x5+1)) x1116000))) else(none)) else(tribunalref02_Read.l1 k x0 0 x1116000 ([]:List Int))
def tribunalref02_Read.l1:Nat→ByteArray→Int→Bool→List Int→Option (Bool×List Int×Bool)
 | 0,_,_,_,_=>none
 | k+1,x0,x6,x1116000,x1116001=>if x6<(x0.size:Int) then((tribunalref02_timesD.f k x1116001 10).bind fun t1116=>(if 0≤x6 then((tribunalref02_Small1.f k (((bt x0 x6)-48)%256)).bind fun bt1119=>((tribunalref02_addD.f k t1116 bt1119.2).bind fun t1123=>((tribunalref02_Make.f k false t1123).bind fun bt1126=>(tribunalref02_Read.l1 k x0 (wrap64 (x6+1)) bt1126.1 bt1126.2)))) else(none))) else(some (x1116000,x1116001,decide (0<x0.size)))
end
def tribunalref02_Read.f (k:Nat) (a0:ByteArray):Option (Bool×List Int×Bool):=tribunalref02_Read.l0 k a0 0 false
def tribunalref02_Read.T10:Bool×List (List Nat×List Nat):=(true,[([],[]),([0],[0]),([1],[1]),([],[]),([],[]),([3,4],[3,4]),([5],[5]),([6],[6]),([7,2],[7]),([8],[8]),([2,9,8],[2,9]),([10,10],[10]),([11,11,0,1,2,3,4,5,6,7,8,9,10,11],[11])])
def tribunalref02_Read.B10:List Nat:=[0,1,3,0,0,24,56,120,255,511,1023,2047,4095]
theorem tribunalref02_Read.tab10:rtab .any (opsOf Tryz.f82 10)=tribunalref02_Read.T10:=by kernel_rfl
theorem tribunalref02_Read.bits10:waitsOk tribunalref02_Read.T10.2 tribunalref02_Read.B10=true:=by kernel_rfl
theorem tribunalref02_Read.calls (k:Nat) (a0:ByteArray) (r1:Bool) (r2:List Int) (r3:Bool) (w:World) (h:tribunalref02_Read.f k a0=some (r1,r2,r3)) :
  Calls Tryz.prog 82 #[.string a0] w fun e w'=>∃v1_:Value,e=.returned (.tuple #[.agg #[.bool r1,v1_],.bool r3])∧Kd.V (Kd.int .u16) 83 w' w.heap.size (fun k_=>(w.heap.size≤k_)) v1_ r2∧Below w.heap.size w w':=by
 have bT:=Tryz.underlying73
 have bo:∀(v0_ v1_:Value) (W_:World),(Instr.field 73 (.agg #[v0_,v1_]) 1).run Tryz.prog W_=.ok (v1_) W_:=fun _ _ _=>by kernel_rfl
 have HB:=Aside0.mk (Below.refl w.heap.size w)
 have H:(tribunalref02_Read.l0 k a0 0 false)=some (r1,r2,r3):=h
 clear h
 have H':=Aside0.mk H
 clear H
 go_enter Tryz.func82,Tryz.ntmps82
 go_wp2_with (first|(refine gd 2 rfl ?_;refine kbe 2 #[.bool false,.slice none 0 0] 73 ?_;intro ag hg w2 hbox hb;have ab:=Aside0.mk (hbox);have bE:=kbz hg HB;have ap:=kbz hg HB;replace HB:=kbs HB hb;clear hb hbox hg)|(refine gd 4 rfl ?_;refine kbe 4 #[.bool false,.slice none 0 0] 73 ?_;intro aj hg w3 hbox hb;have aa:=Aside0.mk (hbox);have bF:=kbz hg HB;have aq:=kbz hg HB;replace HB:=kbs HB hb;have ae:=knl hg ab;have al:=kng hg ab;replace ab:=kbb ab hb;clear hb hbox hg;have bU:=al.out;have bV:=ae.out;have az:w3.cell? ⟨aj,0,none⟩=some (.bool false):=(blk_cell aa.out 0).trans rfl;have aA:w3.cell? ⟨aj,1,none⟩=some (.slice none 0 0):=(blk_cell aa.out 1).trans rfl;have aB:=blk_frozen aa.out 0;have aC:=blk_frozen aa.out 1))
 go_loopg [5] k (fun kq v5 w'=>∃(ad:Int) (ah:Bool),v5=.int .i64 ad∧Aside0 (tribunalref02_Read.l0 kq a0 ad false=some (r1,r2,r3))∧Aside0 (kq≤k)∧Aside0 (w'.heap[ag]? = some (.cells #[.bool ah,(.slice none 0 0)] 73 (0,0)))∧Aside0 (w'.heap[aj]? = some (.cells #[.bool false,(.slice none 0 0)] 73 (0,0)))∧Aside0 (Below w.heap.size w w'))
 case atStart=>exact⟨(0),(false),Y0,H',⟨Nat.le_refl _⟩,⟨by(with_reducible repeat (first|refine blk_drewN ?_ _|refine blk_drew ?_|refine blk_alloc ?_ _));refine blk_far ?_ ae.out _;(with_reducible repeat (first|refine blk_drewN ?_ _|refine blk_drew ?_|refine blk_alloc ?_ _));refine blk_far ?_ ae.out _;(with_reducible repeat (first|refine blk_drewN ?_ _|refine blk_drew ?_|refine blk_alloc ?_ _));exact ab.out⟩,⟨by(with_reducible repeat (first|refine blk_drewN ?_ _|refine blk_drew ?_|refine blk_alloc ?_ _));refine blk_put (cs:=#[.bool false,.slice none 0 0]) ?_ 1 _ rfl;(with_reducible repeat (first|refine blk_drewN ?_ _|refine blk_drew ?_|refine blk_alloc ?_ _));refine blk_put (cs:=#[.bool false,.slice none 0 0]) ?_ 0 _ rfl;(with_reducible repeat (first|refine blk_drewN ?_ _|refine blk_drew ?_|refine blk_alloc ?_ _));exact aa.out⟩,⟨by repeat (first|(with_reducible first|exact HB.out|apply below_alloc|apply pw_below_drewN|apply below_drew1|refine below_set ?_ ap.out|refine below_set ?_ aq.out)|exact HB.out)⟩⟩
 case round=>
  clear H'
  try clear p2
  try clear c4
  try clear az
  try clear aA
  try clear aB
  try clear aC
  obtain⟨ad,ah,rfl,HA,HK1,ab,aa,HB⟩:=hrel
  cases gk with
  | zero=>exact absurd HA.out (by simp[tribunalref02_Read.l0])
  | succ k1=>
   have H:=HA.out
   clear HA
   simp only[tribunalref02_Read.l0]at H
   by_cases c6:ad<(a0.size:Int)
   ·rw[if_pos c6]at H
    have aN:decide (ad<(a0.size:Int))=true:=decide_eq_true c6
    clear c6
    by_cases c7:0≤ad
    ·rw[if_pos c7]at H
     have bj:decide (0≤ad)=true:=decide_eq_true c7
     clear c7
     by_cases c9:(bt a0 ad)<48
     ·rw[if_pos c9]at H
      have aO:decide ((bt a0 ad)<48)=true:=decide_eq_true c9
      clear c9
      simp only[Option.some.injEq,Prod.mk.injEq]at H
      obtain⟨rfl,rfl,rfl⟩:=H
      have p8:0≤(ad:Int):=of_decide_eq_true ‹_›
      have q8:ad<(a0.size:Int):=of_decide_eq_true ‹_›
      have hx8:=bt_at a0 ad
      replace p8:=eq_true p8
      replace q8:=eq_true q8
      have bG:=ae.out
      have bH:=al.out
      have aF:wr.cell? ⟨ag,0,none⟩=some (.bool ah):=(blk_cell ab.out 0).trans rfl
      have aG:wr.cell? ⟨ag,1,none⟩=some (.slice none 0 0):=(blk_cell ab.out 1).trans rfl
      have aH:=blk_frozen ab.out 0
      have aI:=blk_frozen ab.out 1
      go_wp2
      refine bodyPost_ret (results_ct rfl _ _ ag 73 #[.bool false,.slice none 0 0] (0,0) _ rfl (kpu #[.bool false,.slice none 0 0] 1 (kpu #[.bool ah,.slice none 0 0] 0 (kbu ab.out))) Tryz.underlying73 rfl X0) rfl ?_
      exact⟨_,B0,Kd.V_nil _ _ _ _ _,by repeat (first|(with_reducible first|exact HB.out|apply below_alloc|apply pw_below_drewN|apply below_drew1|refine below_set ?_ ap.out|refine below_set ?_ aq.out)|exact HB.out)⟩
     rw[if_neg c9]at H
     have aO:decide ((bt a0 ad)<48)=false:=decide_eq_false c9
     clear c9
     by_cases c13:(bt a0 ad)>57
     ·rw[if_pos c13]at H
      have aE:decide (57<(bt a0 ad))=true:=decide_eq_true c13
      clear c13
      simp only[Option.some.injEq,Prod.mk.injEq]at H
      obtain⟨rfl,rfl,rfl⟩:=H
      have p8:0≤(ad:Int):=of_decide_eq_true ‹_›
      have q8:ad<(a0.size:Int):=of_decide_eq_true ‹_›
      have hx8:=bt_at a0 ad
      replace p8:=eq_true p8
      replace q8:=eq_true q8
      have p12:0≤(ad:Int):=of_decide_eq_true ‹_›
      have q12:ad<(a0.size:Int):=of_decide_eq_true ‹_›
      have aP:=bt_at a0 ad
      replace p12:=eq_true p12
      replace q12:=eq_true q12
      have bI:=ae.out
      have bJ:=al.out
      have aJ:wr.cell? ⟨ag,0,none⟩=some (.bool ah):=(blk_cell ab.out 0).trans rfl
      have aK:wr.cell? ⟨ag,1,none⟩=some (.slice none 0 0):=(blk_cell ab.out 1).trans rfl
      have aL:=blk_frozen ab.out 0
      have aM:=blk_frozen ab.out 1
      go_wp2
      refine bodyPost_ret (results_ct rfl _ _ ag 73 #[.bool false,.slice none 0 0] (0,0) _ rfl (kpu #[.bool false,.slice none 0 0] 1 (kpu #[.bool ah,.slice none 0 0] 0 (kbu ab.out))) Tryz.underlying73 rfl X0) rfl ?_
      exact⟨_,B0,Kd.V_nil _ _ _ _ _,by repeat (first|(with_reducible first|exact HB.out|apply below_alloc|apply pw_below_drewN|apply below_drew1|refine below_set ?_ ap.out|refine below_set ?_ aq.out)|exact HB.out)⟩
     rw[if_neg c13]at H
     have aE:decide (57<(bt a0 ad))=false:=decide_eq_false c13
     clear c13
     have H':=Aside0.mk H
     clear H
     have p8:0≤(ad:Int):=of_decide_eq_true ‹_›
     have q8:ad<(a0.size:Int):=of_decide_eq_true ‹_›
     have hx8:=bt_at a0 ad
     replace p8:=eq_true p8
     replace q8:=eq_true q8
     have p12:0≤(ad:Int):=of_decide_eq_true ‹_›
     have q12:ad<(a0.size:Int):=of_decide_eq_true ‹_›
     have aP:=bt_at a0 ad
     replace p12:=eq_true p12
     replace q12:=eq_true q12
     go_wp2
     go_roundg k1
     case measure=>have:=HK1.out;omega
     case rel=>exact⟨(wrap64 (ad+1)),(ah),Y0,H',⟨Y3⟩,⟨by(with_reducible repeat (first|refine blk_drewN ?_ _|refine blk_drew ?_|refine blk_alloc ?_ _));exact ab.out⟩,⟨by(with_reducible repeat (first|refine blk_drewN ?_ _|refine blk_drew ?_|refine blk_alloc ?_ _));exact aa.out⟩,⟨by repeat (first|(with_reducible first|exact HB.out|apply below_alloc|apply pw_below_drewN|apply below_drew1|refine below_set ?_ ap.out|refine below_set ?_ aq.out)|exact HB.out)⟩⟩
    rw[if_neg c7]at H
    exact absurd H Z1
   rw[if_neg c6]at H
   have aN:decide (ad<(a0.size:Int))=false:=decide_eq_false c6
   clear c6
   have H':=Aside0.mk H
   clear H
   go_wp2
   go_loopg [6] k1 (fun kq v6 w'=>∃(ak:Int) (ai:Bool) (af:List Int) (u1116001:Value),v6=.int .i64 ak∧Aside0 (tribunalref02_Read.l1 kq a0 ak ai af=some (r1,r2,r3))∧Aside0 (kq≤k1)∧Aside0 (Kd.V (Kd.int .u16) 83 w' w.heap.size (fun k_=>(w.heap.size≤k_)∧k_≠ag∧k_≠aj) u1116001 af)∧Aside0 (w'.heap[ag]? = some (.cells #[.bool ah,(.slice none 0 0)] 73 (0,0)))∧Aside0 (w'.heap[aj]? = some (.cells #[.bool ai,u1116001] 73 (0,0)))∧Aside0 (Below w.heap.size w w'))
   case atStart=>exact⟨(0),(false),(([]:List Int)),(.slice none 0 0),Y0,H',⟨Nat.le_refl _⟩,⟨Kd.V_nil _ _ _ _ _⟩,⟨by(with_reducible repeat (first|refine blk_drewN ?_ _|refine blk_drew ?_|refine blk_alloc ?_ _));exact ab.out⟩,⟨by(with_reducible repeat (first|refine blk_drewN ?_ _|refine blk_drew ?_|refine blk_alloc ?_ _));exact aa.out⟩,⟨by repeat (first|(with_reducible first|exact HB.out|apply below_alloc|apply pw_below_drewN|apply below_drew1|refine below_set ?_ ap.out|refine below_set ?_ aq.out)|exact HB.out)⟩⟩
   case round=>
    clear H'
    try clear c1
    try clear p1
    try clear q1
    try clear hx1
    try clear p2
    try clear c4
    try clear c6
    try clear aN
    try clear p6
    try clear c7
    try clear bj
    try clear c8
    try clear p8
    try clear q8
    try clear hx8
    try clear c9
    try clear aO
    try clear c10
    try clear p12
    try clear q12
    try clear aP
    try clear c13
    try clear aE
    try clear c14
    try clear aF
    try clear aG
    try clear aJ
    try clear aK
    try clear az
    try clear aA
    try clear aH
    try clear aI
    try clear aL
    try clear aM
    try clear aB
    try clear aC
    try clear p12
    try clear p2
    try clear p8
    try clear q12
    try clear q8
    obtain⟨ak,ai,af,u1116001,rfl,HA,HK2,ac,ab,aa,HB⟩:=hrel
    cases gk with
    | zero=>exact absurd HA.out (by simp[tribunalref02_Read.l1])
    | succ k2=>
     have H:=HA.out
     clear HA
     simp only[tribunalref02_Read.l1]at H
     by_cases c16:ak<(a0.size:Int)
     ·rw[if_pos c16]at H
      have bh:decide (ak<(a0.size:Int))=true:=decide_eq_true c16
      clear c16
      replace H:=Option.bind_eq_some_iff.mp H
      obtain⟨av,aQ,H⟩:=H
      replace H:(if 0≤ak then((tribunalref02_Small1.f k2 (((bt a0 ak)-48)%256)).bind fun aR=>((tribunalref02_addD.f k2 av aR.2).bind fun ao=>((tribunalref02_Make.f k2 false ao).bind fun an=>(tribunalref02_Read.l1 k2 a0 (wrap64 (ak+1)) an.1 an.2)))) else(none))=some (r1,r2,r3):=H
      have A17:=Aside0.mk aQ
      clear aQ
      by_cases c18:0≤ak
      ·rw[if_pos c18]at H
       have bK:decide (0≤ak)=true:=decide_eq_true c18
       clear c18
       replace H:=Option.bind_eq_some_iff.mp H
       obtain⟨⟨bi,ay⟩,aS,H⟩:=H
       replace H:((tribunalref02_addD.f k2 av ay).bind fun ao=>((tribunalref02_Make.f k2 false ao).bind fun an=>(tribunalref02_Read.l1 k2 a0 (wrap64 (ak+1)) an.1 an.2)))=some (r1,r2,r3):=H
       have A20:=Aside0.mk aS
       clear aS
       replace H:=Option.bind_eq_some_iff.mp H
       obtain⟨ao,aT,H⟩:=H
       replace H:((tribunalref02_Make.f k2 false ao).bind fun an=>(tribunalref02_Read.l1 k2 a0 (wrap64 (ak+1)) an.1 an.2))=some (r1,r2,r3):=H
       have A21:=Aside0.mk aT
       clear aT
       replace H:=Option.bind_eq_some_iff.mp H
       obtain⟨⟨aw,ax⟩,aU,H⟩:=H
       replace H:(tribunalref02_Read.l1 k2 a0 (wrap64 (ak+1)) aw ax)=some (r1,r2,r3):=H
       have A22:=Aside0.mk aU
       clear aU
       have H':=Aside0.mk H
       clear H
       try go_wp2
       replace ac:=Aside0.mk (Kd.V_drew ac.out);replace ab:=Aside0.mk (blk_drew ab.out);replace aa:=Aside0.mk (blk_drew aa.out);replace HB:=Aside0.mk (below_drew1 HB.out)
       have p19:0≤(ak:Int):=of_decide_eq_true ‹_›
       have q19:ak<(a0.size:Int):=of_decide_eq_true ‹_›
       have bW:=bt_at a0 ak
       replace p19:=eq_true p19
       replace q19:=eq_true q19
       obtain⟨Ao24,co24,aV⟩:=Kd.V_slice ac.out
       (first|subst aV|(injection aV with f1_ f2_ f3_;have f4_:=f1_.symm;have f5_:=f3_.symm;clear f1_ f2_ f3_;subst f4_;subst f5_))
       refine start_ (n:=13) (S:=fun w'=>w'.cell? ⟨aj,0,none⟩=some (.bool ai)∧w'.cell? ⟨aj,1,none⟩=some (.slice Ao24 af.length co24)) (ds:=[12]) (bm_ 13 0) X0 rfl rfl ⟨(blk_cell aa.out 0).trans rfl,(blk_cell aa.out 1).trans rfl⟩ (fun hHeld=>?_);refine with_tabW tribunalref02_Read.tab10 tribunalref02_Read.bits10 (fun HT_ HW_=>?_)
       generalize wr.drew=w23 at ac ab aa HB hHeld ⊢
       refine pu_ 0 31 ?_ (bm_ 13 1) rfl rfl (any_of HT_.out X0) (fun _ _ _ h=>h) F1 ?_ ?_ ?_ ?_
       rotate_left
       ·intro w'
        go_simp
        with_reducible rfl
       rotate_left
       ·simp only[Act.put,kss,i64_w,i32_w]
        rfl
       refine pu_ 3 34 ?_ (bm_ 13 9) rfl rfl (any_of HT_.out X0) (fun _ _ _ h=>h) F1 ?_ ?_ ?_ ?_
       rotate_left
       ·intro w'
        go_simp
        with_reducible rfl
       rotate_left
       ·simp only[Act.put,kss,i64_w,i32_w]
        rfl
       refine pu_ 4 35 ?_ (bm_ 13 25) rfl rfl (any_of HT_.out X0) (fun _ _ _ h=>h) F1 ?_ ?_ ?_ ?_
       rotate_left
       ·intro w'
        go_simp
        with_reducible rfl
       rotate_left
       ·simp only[Act.put,kss,i64_w,i32_w]
        rfl
       refine tk_ 1 32 ?_ (bm_ 13 27) rfl rfl (take_ofW HT_.out HW_.out X0) (fun _ _ _ h=>h) F1 ?_ hHeld ?_ ?_ ?_
       rotate_left
       ·rintro w' ⟨s0,s1⟩
        go_simp
        with_reducible rfl
       rotate_left
       ·simp only[Act.put,kss,i64_w,i32_w]
        rfl
       refine tk_ 5 36 ?_ (bm_ 13 59) rfl rfl (take_ofW HT_.out HW_.out X0) (fun _ _ _ h=>h) F1 ?_ hHeld ?_ ?_ ?_
       rotate_left
       ·rintro w' ⟨s0,s1⟩
        go_simp
        with_reducible rfl
       rotate_left
       ·simp only[Act.put,kss,i64_w,i32_w]
        rfl
       refine pu_ 6 37 ?_ (bm_ 13 123) rfl rfl (any_of HT_.out X0) (fun _ _ _ h=>h) F1 ?_ ?_ ?_ ?_
       rotate_left
       ·intro w'
        go_simp
        with_reducible rfl
       rotate_left
       ·simp only[Act.put,kss,i64_w,i32_w]
        rfl
       refine pu_ 7 38 ?_ (bm_ 13 251) rfl rfl (any_of HT_.out X0) (fun _ _ _ h=>h) F1 ?_ ?_ ?_ ?_
       rotate_left
       ·intro w'
        go_simp
        with_reducible rfl
       rotate_left
       ·simp only[Act.put,kss,i64_w,i32_w]
        rfl
       refine one_ (i:=2) (N:=some 33) (bm_ 13 255) rfl rfl (one_of HT_.out X0) J0 (fun K hK=>?_)
       refine kgo Tryz.func157 #[.slice Ao24 af.length co24,.int .u32 10] F1 rfl rfl ?_
       with_reducible refine(tribunalref02_timesD.calls k2 _ _ af 10 av _ ?side1 ?side2 A17.out).mono ?_
       (case side1=>repeat (first|exact(Kd.V_reads' ac.out).2.2|(with_reducible refine Kd.C_alloc ?_ _)|(with_reducible refine Kd.C_drewN ?_ _)|(with_reducible refine Kd.C_drew ?_)))
       (case side2=>exact(Kd.V_reads' ac.out).2.1)
       rintro e w25 ⟨bL,rfl,ho0,hb⟩
       refine⟨_,rfl,?_⟩
       replace ac:=kvb ac hb;have am:=Aside0.mk (Kd.V_lower (Kd.V_mono (ok':=fun k_=>(w.heap.size≤k_)∧k_≠ag∧k_≠aj) ho0 (fun k_ hk_=>⟨(Nat.le_trans (below_size (khu HB.out)) hk_),(kfb ab hk_),(kfb aa hk_)⟩)) (below_size (khu HB.out)));replace ab:=kbb ab hb;replace aa:=kbb aa hb;replace HB:=kbs HB hb
       (try clear hb);(try clear hb2);(try clear hk);(try clear hi);(try clear ho0)
       refine hK.out _ _ ⟨(blk_cell aa.out 0).trans rfl,(blk_cell aa.out 1).trans rfl⟩ (fun hHeld=>?_)
       clear hK K
       refine norm_ (a':=?_) ?_ ?_
       rotate_left
       ·show Act.put _ (some 33) _=_
        simp only[Act.put,kss,i64_w,i32_w]
        rfl
       refine one_ (i:=8) (N:=some 39) (bm_ 13 511) rfl rfl (one_of HT_.out X0) J0 (fun K hK=>?_)
       refine kgo Tryz.func102 #[.int .i64 (((bt a0 ak)-48)%256)] F1 rfl rfl ?_ (hargs:=by
        simp only[List.map_toArray,List.map_cons,List.map_nil]
        show #[Value.int .i64 (wrap64 (IntKind.u8.wrap (bt a0 ak-48)))]=_
        rw[w_u8])
       with_reducible refine(tribunalref02_Small1.calls k2 (((bt a0 ak)-48)%256) bi ay _ A20.out).mono ?_
       rintro e w26 ⟨bM,rfl,ho0,hb⟩
       refine⟨_,rfl,?_⟩
       replace ac:=kvb ac hb;replace am:=kvb am hb;have ar:=Aside0.mk (Kd.V_lower (Kd.V_mono (ok':=fun k_=>(w.heap.size≤k_)∧k_≠ag∧k_≠aj) ho0 (fun k_ hk_=>⟨(Nat.le_trans (below_size (khu HB.out)) hk_),(kfb ab hk_),(kfb aa hk_)⟩)) (below_size (khu HB.out)));replace ab:=kbb ab hb;replace aa:=kbb aa hb;replace HB:=kbs HB hb
       (try clear hb);(try clear hb2);(try clear hk);(try clear hi);(try clear ho0)
       obtain⟨Ao27,co27,aW⟩:=Kd.V_slice am.out
       (first|subst aW|(injection aW with f1_ f2_ f3_;have f4_:=f1_.symm;have f5_:=f3_.symm;clear f1_ f2_ f3_;subst f4_;subst f5_))
       obtain⟨bk,bl,aX⟩:=Kd.V_slice ar.out
       (first|subst aX|(injection aX with f1_ f2_ f3_;have f4_:=f1_.symm;have f5_:=f3_.symm;clear f1_ f2_ f3_;subst f4_;subst f5_))
       refine hK.out _ _ ⟨(blk_cell aa.out 0).trans rfl,(blk_cell aa.out 1).trans rfl⟩ (fun hHeld=>?_)
       clear hK K
       refine norm_ (a':=?_) ?_ ?_
       rotate_left
       ·show Act.put _ (some 39) _=_
        simp only[Act.put,kss,i64_w,i32_w]
        rfl
       refine pu_ 9 40 ?_ (bm_ 13 1023) rfl rfl (any_of HT_.out X0) (fun _ _ _ h=>h) F1 ?_ ?_ ?_ ?_
       rotate_left
       ·intro w'
        go_simp
        with_reducible rfl
       rotate_left
       ·simp only[Act.put,kss,i64_w,i32_w]
        rfl
       refine one_ (i:=10) (N:=some 41) (bm_ 13 2047) rfl rfl (one_of HT_.out X0) J0 (fun K hK=>?_)
       refine kgo Tryz.func156 #[.slice Ao27 av.length co27,.slice bk ay.length bl] F1 rfl rfl ?_
       with_reducible refine(tribunalref02_addD.calls k2 _ _ av _ _ ay ao _ ?side1 ?side2 ?side3 ?side4 A21.out).mono ?_
       (case side1=>repeat (first|exact(Kd.V_reads' am.out).2.2|(with_reducible refine Kd.C_alloc ?_ _)|(with_reducible refine Kd.C_drewN ?_ _)|(with_reducible refine Kd.C_drew ?_)))
       (case side2=>exact(Kd.V_reads' am.out).2.1)
       (case side3=>repeat (first|exact(Kd.V_reads' ar.out).2.2|(with_reducible refine Kd.C_alloc ?_ _)|(with_reducible refine Kd.C_drewN ?_ _)|(with_reducible refine Kd.C_drew ?_)))
       (case side4=>exact(Kd.V_reads' ar.out).2.1)
       rintro e w29 ⟨bN,rfl,ho0,hb⟩
       refine⟨_,rfl,?_⟩
       replace ac:=Aside0.mk (Kd.V_elder' (kvu ac.out) (Kd.R_base ho0) hb);replace am:=Aside0.mk (Kd.V_elder' (kvu am.out) (Kd.R_base ho0) hb);replace ar:=Aside0.mk (Kd.V_elder' (kvu ar.out) (Kd.R_base ho0) hb);have au:=Aside0.mk (Kd.R_lower (Kd.R_newM (M:=fun k_=>(w.heap.size≤k_)) ho0 (below_size (khu HB.out)) (fun k_ h_=>h_)) (below_size (khu HB.out)));replace ab:=kbb ab hb;replace aa:=kbb aa hb;replace HB:=kbs HB hb
       (try clear hb);(try clear hb2);(try clear hk);(try clear hi);(try clear ho0)
       obtain⟨aY,aZ,bb⟩:=Kd.R_slice au.out
       (first|subst bb|(injection bb with f1_ f2_ f3_;have f4_:=f1_.symm;have f5_:=f3_.symm;clear f1_ f2_ f3_;subst f4_;subst f5_))
       refine hK.out _ _ ⟨(blk_cell aa.out 0).trans rfl,(blk_cell aa.out 1).trans rfl⟩ (fun hHeld=>?_)
       clear hK K
       refine norm_ (a':=?_) ?_ ?_
       rotate_left
       ·show Act.put _ (some 41) _=_
        simp only[Act.put,kss,i64_w,i32_w]
        rfl
       refine one_ (i:=11) (N:=some 42) (bm_ 13 4095) rfl rfl (one_of HT_.out X0) J0 (fun K hK=>?_)
       refine kgo Tryz.func84 #[.bool false,.slice aY ao.length aZ] F1 rfl rfl ?_
       with_reducible refine(tribunalref02_Make.calls k2 false (fun k_=>some k_=(.slice aY ao.length aZ:Value).ownBlock) _ _ ao aw ax _ ?side1 A22.out).mono ?_
       (case side1=>exact Kd.R_V (Kd.R_tight rfl (Kd.R_types (Kd.R_types (au.out) ab.out J0) aa.out J0)))
       rintro e w31 ⟨bO,rfl,ho0,hb⟩
       refine⟨_,rfl,?_⟩
       replace ac:=kvb ac hb;replace am:=kvb am hb;replace ar:=kvb ar hb;have aD:=Aside0.mk (Kd.V_lower (Kd.V_mono (ok':=fun k_=>(w.heap.size≤k_)∧k_≠ag∧k_≠aj) ho0 (fun k_ hk_=>⟨Or.elim hk_ (fun hs_=>((Kd.R_types (Kd.R_types (au.out) ab.out J0) aa.out J0).1 k_ hs_.symm).1.1.1) (fun hn_=>(Nat.le_trans (below_size (khu HB.out)) hn_)),Or.elim hk_ (fun hs_=>((Kd.R_types (Kd.R_types (au.out) ab.out J0) aa.out J0).1 k_ hs_.symm).1.2) (kfb ab),Or.elim hk_ (fun hs_=>((Kd.R_types (Kd.R_types (au.out) ab.out J0) aa.out J0).1 k_ hs_.symm).2) (kfb aa)⟩)) (below_size (khu HB.out)));replace au:=krb au hb;replace ab:=kbb ab hb;replace aa:=kbb aa hb;replace HB:=kbs HB hb
       (try clear hb);(try clear hb2);(try clear hk);(try clear hi);(try clear ho0)
       obtain⟨bc,bd,be⟩:=Kd.V_slice aD.out
       (first|subst be|(injection be with f1_ f2_ f3_;have f4_:=f1_.symm;have f5_:=f3_.symm;clear f1_ f2_ f3_;subst f4_;subst f5_))
       refine hK.out _ _ ⟨(blk_cell aa.out 0).trans rfl,(blk_cell aa.out 1).trans rfl⟩ (fun hHeld=>?_)
       clear hK K
       refine norm_ (a':=?_) ?_ ?_
       rotate_left
       ·show Act.put _ (some 42) _=_
        simp only[Act.put,kss,i64_w,i32_w]
        rfl
       refine last_ (i:=12) (N:=none) (bm_ 13 8191) rfl rfl (one_of HT_.out X0) J0 (fun K hK=>?_)
       have bX:w31.cell? ⟨aj,0,none⟩=some (.bool ai):=(blk_cell aa.out 0).trans rfl
       have bP:=blk_frozen aa.out 0
       have bp:=ae.out
       have bq:=al.out
       have bY:w31.cell? ⟨aj,1,none⟩=some (.slice Ao24 af.length co24):=(blk_cell aa.out 1).trans rfl
       have bQ:=blk_frozen aa.out 1
       have br:=ae.out
       have bu:=al.out
       refine skip_ (w1:=?_) F1 rfl ?_ ?_
       rotate_left
       ·go_simp
        rfl
       refine hK.out _ _ ?_
       clear hK K
       refine done_ (done_of HT_.out X0) ?_
       try go_wp2
       go_roundg k2
       case measure=>have:=HK1.out;have:=HK2.out;omega
       case rel=>exact⟨(wrap64 (ak+1)),(aw),(ax),(.slice bc ax.length bd),Y0,H',⟨F6⟩,⟨by(with_reducible repeat (first|apply Kd.V_alloc|apply Kd.V_drewN|apply Kd.V_drew));exact Kd.V_mono (Kd.V_far (p:=⟨aj,1,none⟩) (Kd.V_far (p:=⟨aj,0,none⟩) (Kd.V_mono aD.out (fun k_ hk=>(⟨hk,hk.2.2⟩:_∧k_≠aj))) (fun _ hk=>hk.2) (.bool aw)) (fun _ hk=>hk.2) (.slice bc ax.length bd)) (fun _ hk=>⟨hk.1.1,⟨hk.1.2.1,hk.1.2.2⟩⟩)⟩,⟨by(with_reducible repeat (first|refine blk_drewN ?_ _|refine blk_drew ?_|refine blk_alloc ?_ _));refine blk_far ?_ ae.out _;(with_reducible repeat (first|refine blk_drewN ?_ _|refine blk_drew ?_|refine blk_alloc ?_ _));refine blk_far ?_ ae.out _;(with_reducible repeat (first|refine blk_drewN ?_ _|refine blk_drew ?_|refine blk_alloc ?_ _));exact ab.out⟩,⟨by(with_reducible repeat (first|refine blk_drewN ?_ _|refine blk_drew ?_|refine blk_alloc ?_ _));refine blk_put (cs:=#[.bool aw,.slice Ao24 af.length co24]) ?_ 1 _ rfl;(with_reducible repeat (first|refine blk_drewN ?_ _|refine blk_drew ?_|refine blk_alloc ?_ _));refine blk_put (cs:=#[.bool ai,.slice Ao24 af.length co24]) ?_ 0 _ rfl;(with_reducible repeat (first|refine blk_drewN ?_ _|refine blk_drew ?_|refine blk_alloc ?_ _));exact aa.out⟩,⟨by repeat (first|(with_reducible first|exact HB.out|apply below_alloc|apply pw_below_drewN|apply below_drew1|refine below_set ?_ ap.out|refine below_set ?_ aq.out)|exact HB.out)⟩⟩
      rw[if_neg c18]at H
      exact absurd H Z1
     rw[if_neg c16]at H
     have bh:decide (ak<(a0.size:Int))=false:=decide_eq_false c16
     clear c16
     simp only[Option.some.injEq,Prod.mk.injEq]at H
     obtain⟨rfl,rfl,rfl⟩:=H
     have bR:=al.out
     have bS:=ae.out
     have bv:wr.cell? ⟨aj,0,none⟩=some (.bool ai):=(blk_cell aa.out 0).trans rfl
     have bw:wr.cell? ⟨aj,1,none⟩=some (u1116001):=(blk_cell aa.out 1).trans rfl
     have bx:=blk_frozen aa.out 0
     have bz:=blk_frozen aa.out 1
     have bA:wr.cell? ⟨ag,0,none⟩=some (.bool ah):=(blk_cell ab.out 0).trans rfl
     have bB:wr.cell? ⟨ag,1,none⟩=some (.slice none 0 0):=(blk_cell ab.out 1).trans rfl
     have bC:=blk_frozen ab.out 0
     have bD:=blk_frozen ab.out 1
     obtain⟨bf,bg,bn⟩:=Kd.V_slice ac.out
     subst bn
     go_wp2
     refine bodyPost_ret (results_ct rfl _ _ ag 73 #[.bool ai,.slice bf af.length bg] (0,0) _ rfl (kpu #[.bool ai,.slice none 0 0] 1 (kpu #[.bool ah,.slice none 0 0] 0 (kbu ab.out))) Tryz.underlying73 rfl X0) rfl ?_
     exact⟨_,B0,by(with_reducible repeat (first|apply Kd.V_alloc|apply Kd.V_drewN|apply Kd.V_drew));exact Kd.V_mono (Kd.V_far (p:=⟨ag,1,none⟩) (Kd.V_far (p:=⟨ag,0,none⟩) (Kd.V_mono ac.out (fun k_ hk=>(⟨hk,hk.2.1⟩:_∧k_≠ag))) (fun _ hk=>hk.2) (.bool ai)) (fun _ hk=>hk.2) (.slice bf af.length bg)) (fun _ hk=>hk.1.1),by repeat (first|(with_reducible first|exact HB.out|apply below_alloc|apply pw_below_drewN|apply below_drew1|refine below_set ?_ ap.out|refine below_set ?_ aq.out)|exact HB.out)⟩
mutual
def tribunalref03_Parse.l0:Nat→ByteArray→Int→Int→Option (Bool×List Int×List Int×Int)
 | 0,_,_,_=>none
 | k+1,x0,x4,x5=>if x5<(x0.size:Int) then(if 0≤x5 then(if(bt x0 x5)=47 then(if x4<0 then(tribunalref03_Parse.l0 k x0 x5 (wrap64 (x5+1))) else(tribunalref03_Parse.l0 k x0 x4 (wrap64 (x5+1)))) else(tribunalref03_Parse.l0 k x0 x4 (wrap64 (x5+1)))) else(none)) else(if x4≥0 then(if 0≤x4 then(if x4≤(x0.size:Int) then(if 0≤(wrap64 (x4+1)) then(if(wrap64 (x4+1))≤(x0.size:Int) then(tribunalref03_Parse.j1 k (x0.extract 0 (x4:Int).toNat) (x0.extract ((wrap64 (x4+1)):Int).toNat x0.size)) else(none)) else(none)) else(none)) else(none)) else(tribunalref03_Parse.j1 k x0 (⟨#[49]⟩:ByteArray)))
def tribunalref03_Parse.j1:Nat→ByteArray→ByteArray→Option (Bool×List Int×List Int×Int)
 | 0,_,_=>none
 | k+1,x6,x7=>if(x6.size:Int)>0 then(if 0<(x6.size:Int) then(tribunalref03_Parse.j2 k x6 x7 ((bt x6 0)==45)) else(none)) else(tribunalref03_Parse.j2 k x6 x7 false)
def tribunalref03_Parse.j2:Nat→ByteArray→ByteArray→Bool→Option (Bool×List Int×List Int×Int)
 | 0,_,_,_=>none
 | k+1,x6,x7,x8=>if x8=true then(if 1≤(x6.size:Int) then(tribunalref03_Parse.j3 k (x6.extract 1 x6.size) x7 x8) else(none)) else(tribunalref03_Parse.j3 k x6 x7 x8)
def tribunalref03_Parse.j3:Nat→ByteArray→ByteArray→Bool→Option (Bool×List Int×List Int×Int)
 | 0,_,_,_=>none
 | k+1,x6,x7,x8=>(tribunalref02_Read.f k x6).bind fun bt1131=>((tribunalref02_Read.f k x7).bind fun bt1137=>(if bt1131.2.2=true then(tribunalref03_Parse.j4 k x8 (!bt1137.2.2) bt1131.1 bt1131.2.1 bt1137.1 bt1137.2.1) else(tribunalref03_Parse.j4 k x8 true bt1131.1 bt1131.2.1 bt1137.1 bt1137.2.1)))
def tribunalref03_Parse.j4:Nat→Bool→Bool→Bool→List Int→Bool→List Int→Option (Bool×List Int×List Int×Int)
 | 0,_,_,_,_,_,_=>none
 | k+1,x8,x64,x1137000,x1137001,x1143000,x1143001=>if x64=true then(some (false,([]:List Int),([]:List Int),13)) else((tribunalref02_Make.f k x8 x1137001).bind fun bt1143=>((tribunalref03_long.f bt1143.1 bt1143.2).bind fun t1147=>(if t1147=true then(tribunalref03_Parse.j5 k true bt1143.1 bt1143.2 x1143000 x1143001) else((tribunalref03_long.f x1143000 x1143001).bind fun t1148=>(tribunalref03_Parse.j5 k t1148 bt1143.1 bt1143.2 x1143000 x1143001)))))
def tribunalref03_Parse.j5:Nat→Bool→Bool→List Int→Bool→List Int→Option (Bool×List Int×List Int×Int)
 | 0,_,_,_,_,_=>none
 | k+1,x75,x1137000,x1137001,x1143000,x1143001=>if x75=true then(some (false,([]:List Int),([]:List Int),5)) else(if(x1143001.length:Int)=0 then(some (false,([]:List Int),([]:List Int),11)) else((tribunalref03_To.f k x1137000 x1137001 x1143000 x1143001).bind fun bt1149=>(some (bt1149.1,bt1149.2.1,bt1149.2.2.1,bt1149.2.2.2))))
end
def tribunalref03_Parse.f (k:Nat) (a0:ByteArray):Option (Bool×List Int×List Int×Int):=tribunalref03_Parse.l0 k a0 (-1) 0
theorem tribunalref03_Parse.calls (k:Nat) (a0:ByteArray) (r1:Bool) (r2:List Int) (r3:List Int) (r4:Int) (w:World) (h:tribunalref03_Parse.f k a0=some (r1,r2,r3,r4)) :
  Calls Tryz.prog 34 #[.string a0] w fun e w'=>∃v1_ v2_:Value,e=.returned (.tuple #[.agg #[.bool r1,v1_,v2_],.int .i64 r4])∧Kd.R (Kd.int .u64) 91 w' w.heap.size (fun k_=>some k_≠(v2_:Value).ownBlock) v1_ r2∧Kd.R (Kd.int .u64) 91 w' w.heap.size (fun k_=>some k_≠(v1_:Value).ownBlock) v2_ r3∧Below w.heap.size w w':=by
 have ea:=Tryz.underlying27
 have eb:=Tryz.underlying73
 have ec:=Tryz.underlying75
 have HB:=Aside0.mk (Below.refl w.heap.size w)
 have H:(tribunalref03_Parse.l0 k a0 (-1) 0)=some (r1,r2,r3,r4):=h
 clear h
 have H':=Aside0.mk H
 clear H
 go_enter Tryz.func34,Tryz.ntmps34
 go_wp2_with (first|(refine gd 2 rfl ?_;refine kbe 2 #[.bool false,.slice none 0 0,.slice none 0 0] 27 ?_;intro ad hg w2 hbox hb;have aa:=Aside0.mk (hbox);have bV:=kbz hg HB;have af:=kbz hg HB;replace HB:=kbs HB hb;clear hb hbox hg))
 repeat (go_quiet (first|(refine gd 2 rfl ?_;refine kbe 2 #[.bool false,.slice none 0 0,.slice none 0 0] 27 ?_;intro ad hg w2 hbox hb;have aa:=Aside0.mk (hbox);have bV:=kbz hg HB;have af:=kbz hg HB;replace HB:=kbs HB hb;clear hb hbox hg));try go_wp2_with (first|(refine gd 2 rfl ?_;refine kbe 2 #[.bool false,.slice none 0 0,.slice none 0 0] 27 ?_;intro ad hg w2 hbox hb;have aa:=Aside0.mk (hbox);have bV:=kbz hg HB;have af:=kbz hg HB;replace HB:=kbs HB hb;clear hb hbox hg)))
 go_loopg [4,5] k (fun kq v4 v5 w'=>∃(aq:Int) (ao:Int),v4=.int .i64 aq∧v5=.int .i64 ao∧Aside0 (tribunalref03_Parse.l0 kq a0 aq ao=some (r1,r2,r3,r4))∧Aside0 (kq≤k)∧Aside0 (w'.heap[ad]? = some (.cells #[.bool false,(.slice none 0 0),(.slice none 0 0)] 27 (0,0)))∧Aside0 (Below w.heap.size w w'))
 case atStart=>exact⟨((-1)),(0),Y0,Y0,H',⟨Nat.le_refl _⟩,⟨by(with_reducible repeat (first|refine blk_drewN ?_ _|refine blk_drew ?_|refine blk_alloc ?_ _));exact aa.out⟩,⟨by repeat (first|(with_reducible first|exact HB.out|apply below_alloc|apply pw_below_drewN|apply below_drew1|refine below_set ?_ af.out)|exact HB.out)⟩⟩
 case round=>
  clear H'
  try clear p2
  obtain⟨aq,ao,rfl,rfl,HA,HK1,aa,HB⟩:=hrel
  cases gk with
  | zero=>exact absurd HA.out (by simp[tribunalref03_Parse.l0])
  | succ k1=>
   have H:=HA.out
   clear HA
   simp only[tribunalref03_Parse.l0]at H
   by_cases c3:ao<(a0.size:Int)
   ·rw [if_pos c3]at H
    have bg:decide (ao<(a0.size:Int))=true:=decide_eq_true c3
    clear c3
    by_cases c4:0≤ao
    ·rw[if_pos c4]at H
     have bC:decide (0≤ao)=true:=decide_eq_true c4
     clear c4
     by_cases c6:(bt a0 ao)=47
     ·rw[if_pos c6]at H
      have bh:((bt a0 ao)==47)=true:=beq_iff_eq.mpr c6
      have bi:((bt a0 ao) != 47)=false:=bne_eq_false_iff_eq.mpr c6
      clear c6
      by_cases c7:aq<0
      ·rw[if_pos c7]at H
       have bj:decide (aq<0)=true:=decide_eq_true c7
       clear c7
       have H':=Aside0.mk H
       clear H
       have p5:0≤(ao:Int):=of_decide_eq_true ‹_›
       have q5:ao<(a0.size:Int):=of_decide_eq_true ‹_›
       have hx5:=bt_at a0 ao
       replace p5:=eq_true p5
       replace q5:=eq_true q5
       go_wp2
       repeat (go_quiet (fail);try go_wp2)
       go_roundg k1
       case measure=>have:=HK1.out;omega
       case rel=>exact⟨(ao),(wrap64 (ao+1)),Y0,Y0,H',⟨Y3⟩,⟨by(with_reducible repeat (first|refine blk_drewN ?_ _|refine blk_drew ?_|refine blk_alloc ?_ _));exact aa.out⟩,⟨by repeat (first|(with_reducible first|exact HB.out|apply below_alloc|apply pw_below_drewN|apply below_drew1|refine below_set ?_ af.out)|exact HB.out)⟩⟩
      rw[if_neg c7]at H
      have bj:decide (aq<0)=false:=decide_eq_false c7
      clear c7
      have H':=Aside0.mk H
      clear H
      have p5:0≤(ao:Int):=of_decide_eq_true ‹_›
      have q5:ao<(a0.size:Int):=of_decide_eq_true ‹_›
      have hx5:=bt_at a0 ao
      replace p5:=eq_true p5
      replace q5:=eq_true q5
      go_wp2
      repeat (go_quiet (fail);try go_wp2)
      go_roundg k1
      case measure=>have:=HK1.out;omega
      case rel=>exact⟨(aq),(wrap64 (ao+1)),Y0,Y0,H',⟨Y3⟩,⟨by(with_reducible repeat (first|refine blk_drewN ?_ _|refine blk_drew ?_|refine blk_alloc ?_ _));exact aa.out⟩,⟨by repeat (first|(with_reducible first|exact HB.out|apply below_alloc|apply pw_below_drewN|apply below_drew1|refine below_set ?_ af.out)|exact HB.out)⟩⟩
     rw[if_neg c6]at H
     have bh:((bt a0 ao)==47)=false:=beq_eq_false_iff_ne.mpr c6
     have bi:((bt a0 ao) != 47)=true:=bne_iff_ne.mpr c6
     have H':=Aside0.mk H
     clear H
     have p5:0≤(ao:Int):=of_decide_eq_true ‹_›
     have q5:ao<(a0.size:Int):=of_decide_eq_true ‹_›
     have hx5:=bt_at a0 ao
     replace p5:=eq_true p5
     replace q5:=eq_true q5
     go_wp2
     repeat (go_quiet (fail);try go_wp2)
     go_roundg k1
     case measure=>have:=HK1.out;omega
     case rel=>exact⟨(aq),(wrap64 (ao+1)),Y0,Y0,H',⟨Y3⟩,⟨by(with_reducible repeat (first|refine blk_drewN ?_ _|refine blk_drew ?_|refine blk_alloc ?_ _));exact aa.out⟩,⟨by repeat (first|(with_reducible first|exact HB.out|apply below_alloc|apply pw_below_drewN|apply below_drew1|refine below_set ?_ af.out)|exact HB.out)⟩⟩
    rw[if_neg c4]at H
    exact absurd H Z1
   rw[if_neg c3]at H
   have bg:decide (ao<(a0.size:Int))=false:=decide_eq_false c3
   clear c3
   have HC8:=Aside0.mk H
   clear H
   go_upto_if 30 with(fail)
   repeat (go_quiet (fail);go_upto_if 30 with(fail))
   go_cut [6,7] (fun v6 v7 wc=>∃(kq:Nat) (am:ByteArray) (ay:ByteArray),v6=.string am∧v7=.string ay∧Aside0 (tribunalref03_Parse.j1 kq am ay=some (r1,r2,r3,r4))∧Aside0 (kq≤k1)∧Aside0 (wc.heap[ad]? = some (.cells #[.bool false,(.slice none 0 0),(.slice none 0 0)] 27 (0,0)))∧Aside0 (Below w.heap.size w wc))
   case first=>
    have H:=HC8.out
    clear HC8
    by_cases c9:aq≥0
    ·rw [if_pos c9]at H
     have aA:decide (0≤aq)=true:=decide_eq_true c9
     clear c9
     (first|rw[aA]|rw[bk]|(simp only[i64_w,i32_w];rw[aA])|skip)
     by_cases c10:0≤aq
     ·rw [if_pos c10]at H
      have aU:=eq_true c10
      have aV:decide (0≤aq)=true:=decide_eq_true c10
      clear c10
      by_cases c11:aq≤(a0.size:Int)
      ·rw[if_pos c11]at H
       have aW:=eq_true c11
       have aX:decide (aq≤(a0.size:Int))=true:=decide_eq_true c11
       clear c11
       obtain⟨aE,hji12⟩:∃j_:Int,(wrap64 (aq+1))=j_:=⟨_,rfl⟩
       replace H:(if 0≤(aE) then(if(aE)≤(a0.size:Int) then(tribunalref03_Parse.j1 k1 (a0.extract 0 (aq:Int).toNat) (a0.extract ((aE):Int).toNat a0.size)) else(none)) else(none))=some (r1,r2,r3,r4):=by first|(rw[hji12]at H;exact H)|(simp only[hji12]at H ⊢;exact H)
       have dr:(IntKind.i64.wrap (aq+1))=aE:=(i64_w _).trans hji12
       by_cases c13:0≤(aE)
       ·rw[if_pos c13]at H
        have aY:=eq_true c13
        have aZ:decide (0≤(aE))=true:=decide_eq_true c13
        clear c13
        by_cases c14:(aE)≤(a0.size:Int)
        ·rw[if_pos c14]at H
         have bb:=eq_true c14
         have bc:decide ((aE)≤(a0.size:Int))=true:=decide_eq_true c14
         clear c14
         have H':=Aside0.mk H
         clear H
         go_wp2
         repeat (go_quiet (fail);try go_wp2)
         go_meet
         case rel=>exact⟨_,(a0.extract 0 (aq:Int).toNat),(a0.extract ((aE):Int).toNat a0.size),Y0,(by first|rfl|(simp;done)|(simp only[←hji12]<;>(first|rfl|simp))|(simp[*];done)),H',⟨V6⟩,⟨by(with_reducible repeat (first|refine blk_drewN ?_ _|refine blk_drew ?_|refine blk_alloc ?_ _));exact aa.out⟩,⟨by repeat (first|(with_reducible first|exact HB.out|apply below_alloc|apply pw_below_drewN|apply below_drew1|refine below_set ?_ af.out)|exact HB.out)⟩⟩
        rw[if_neg c14]at H
        exact absurd H Z1
       rw[if_neg c13]at H
       exact absurd H Z1
      rw[if_neg c11]at H
      exact absurd H Z1
     rw[if_neg c10]at H
     exact absurd H Z1
    rw[if_neg c9]at H
    have aA:decide (0≤aq)=false:=decide_eq_false c9
    clear c9
    (first|rw[aA]|rw[bk]|(simp only[i64_w,i32_w];rw[aA])|skip)
    have H':=Aside0.mk H
    clear H
    go_wp2
    repeat (go_quiet (fail);try go_wp2)
    go_meet
    case rel=>exact⟨_,(a0),((⟨#[49]⟩:ByteArray)),Y0,Y0,H',⟨V6⟩,⟨by(with_reducible repeat (first|refine blk_drewN ?_ _|refine blk_drew ?_|refine blk_alloc ?_ _));exact aa.out⟩,⟨by repeat (first|(with_reducible first|exact HB.out|apply below_alloc|apply pw_below_drewN|apply below_drew1|refine below_set ?_ af.out)|exact HB.out)⟩⟩
   case rest=>
    clear HC8
    try clear c1
    try clear p2
    try clear c3
    try clear bg
    try clear c4
    try clear bC
    try clear p5
    try clear q5
    try clear hx5
    try clear c6
    try clear bh
    try clear bi
    try clear p6
    try clear c7
    try clear bj
    try clear c9
    try clear aA
    try clear bk
    try clear c10
    try clear aU
    try clear aV
    try clear c11
    try clear aW
    try clear aX
    try clear c13
    try clear aY
    try clear aZ
    try clear c14
    try clear bb
    try clear bc
    try clear p2
    try clear p5
    try clear q5
    obtain⟨kq,am,ay,rfl,rfl,HA,HJ7,aa,HB⟩:=hcut
    cases kq with
    | zero=>exact absurd HA.out (by simp[tribunalref03_Parse.j1])
    | succ kj7=>
     have H:=HA.out
     clear HA
     simp only[tribunalref03_Parse.j1]at H
     have bY:=Aside0.mk H
     clear H
     go_upto_region 10 with(fail)
     repeat (go_quiet (fail);go_upto_region 10 with(fail))
     go_cut [8] (fun v8 wc=>∃(kq:Nat) (ap:Bool),v8=.bool ap∧Aside0 (tribunalref03_Parse.j2 kq am ay ap=some (r1,r2,r3,r4))∧Aside0 (kq≤kj7)∧Aside0 (wc.heap[ad]? = some (.cells #[.bool false,(.slice none 0 0),(.slice none 0 0)] 27 (0,0)))∧Aside0 (Below w.heap.size w wc))
     case first=>
      have H:=bY.out
      clear bY
      by_cases c16:(am.size:Int)>0
      ·rw[if_pos c16]at H
       have aw:decide (0<(am.size:Int))=true:=decide_eq_true c16
       have aF:decide (0<am.size)=true:=decide_eq_true Z0
       clear c16
       (first|rw[aw]|rw[aF]|(simp only[i64_w,i32_w];rw[aw])|skip)
       by_cases c17:0<(am.size:Int)
       ·rw[if_pos c17]at H
        have bz:decide (0<(am.size:Int))=true:=decide_eq_true c17
        have bA:decide (0<am.size)=true:=decide_eq_true Z0
        clear c17
        have H':=Aside0.mk H
        clear H
        have p18:0≤(0:Int):=Z0
        have q18:0<am.size:=(by have:(0:Int)<(am.size:Int):=of_decide_eq_true ‹_›;omega)
        have bQ:∀h:0<am.size,((am[0]'h).toNat:Int)=bt am 0:=bt_at am 0
        clear p18
        have bR:(0<(am.size:Int))=True:=eq_true (of_decide_eq_true ‹_›)
        replace q18:=eq_true q18
        go_wp2
        repeat (go_quiet (fail);try go_wp2)
        go_meet
        case rel=>exact⟨_,(((bt am 0)==45)),Y0,H',⟨by have:=HK1.out;have:=HJ7.out;first|omega|exact Nat.le_refl _⟩,⟨by(with_reducible repeat (first|refine blk_drewN ?_ _|refine blk_drew ?_|refine blk_alloc ?_ _));exact aa.out⟩,⟨by repeat (first|(with_reducible first|exact HB.out|apply below_alloc|apply pw_below_drewN|apply below_drew1|refine below_set ?_ af.out)|exact HB.out)⟩⟩
       rw[if_neg c17]at H
       exact absurd H Z1
      rw[if_neg c16]at H
      have aw:decide (0<(am.size:Int))=false:=decide_eq_false c16
      have aF:decide (0<am.size)=false:=decide_eq_false Z0
      clear c16
      (first|rw[aw]|rw[aF]|(simp only[i64_w,i32_w];rw[aw])|skip)
      have H':=Aside0.mk H
      clear H
      go_wp2
      repeat (go_quiet (fail);try go_wp2)
      go_meet
      case rel=>exact⟨_,(false),Y0,H',⟨by have:=HK1.out;have:=HJ7.out;first|omega|exact Nat.le_refl _⟩,⟨by(with_reducible repeat (first|refine blk_drewN ?_ _|refine blk_drew ?_|refine blk_alloc ?_ _));exact aa.out⟩,⟨by repeat (first|(with_reducible first|exact HB.out|apply below_alloc|apply pw_below_drewN|apply below_drew1|refine below_set ?_ af.out)|exact HB.out)⟩⟩
     case rest=>
      clear bY
      try clear c1
      try clear p1
      try clear q1
      try clear hx1
      try clear qi1
      try clear p2
      try clear c3
      try clear bg
      try clear c4
      try clear bC
      try clear p5
      try clear q5
      try clear hx5
      try clear c6
      try clear bh
      try clear bi
      try clear p6
      try clear c7
      try clear bj
      try clear c9
      try clear aA
      try clear bk
      try clear c10
      try clear aU
      try clear aV
      try clear c11
      try clear aW
      try clear aX
      try clear c13
      try clear aY
      try clear aZ
      try clear c14
      try clear bb
      try clear bc
      try clear c16
      try clear aw
      try clear aF
      try clear c17
      try clear bz
      try clear bA
      try clear p18
      try clear q18
      try clear bQ
      try clear bR
      try clear p18
      try clear p2
      try clear p5
      try clear p6
      try clear q18
      try clear q5
      obtain⟨kq,ap,rfl,HA,HJ14,aa,HB⟩:=hcut
      cases kq with
      | zero=>exact absurd HA.out (by simp[tribunalref03_Parse.j2])
      | succ bZ=>
       have H:=HA.out
       clear HA
       simp only[tribunalref03_Parse.j2]at H
       have ca:=Aside0.mk H
       clear H
       go_upto_if 46 with(fail)
       repeat (go_quiet (fail);go_upto_if 46 with(fail))
       go_cut [6] (fun v6 wc=>∃(kq:Nat) (aI:ByteArray),v6=.string aI∧Aside0 (tribunalref03_Parse.j3 kq aI ay ap=some (r1,r2,r3,r4))∧Aside0 (kq≤bZ)∧Aside0 (wc.heap[ad]? = some (.cells #[.bool false,(.slice none 0 0),(.slice none 0 0)] 27 (0,0)))∧Aside0 (Below w.heap.size w wc))
       case first=>
        have H:=ca.out
        clear ca
        by_cases c20:ap=true
        ·subst c20
         have H1:(if 1≤(am.size:Int) then(tribunalref03_Parse.j3 bZ (am.extract 1 am.size) ay true) else(none))=some (r1,r2,r3,r4):=by rw[if_pos rfl]at H;exact H
         clear H
         have H:=H1
         clear H1
         by_cases c21:1≤(am.size:Int)
         ·rw[if_pos c21]at H
          have bS:=eq_true c21
          have bT:decide (1≤(am.size:Int))=true:=decide_eq_true c21
          clear c21
          have H':=Aside0.mk H
          clear H
          go_wp2
          repeat (go_quiet (fail);try go_wp2)
          go_meet
          case rel=>exact⟨_,(am.extract 1 am.size),Y0,H',⟨Za⟩,⟨by(with_reducible repeat (first|refine blk_drewN ?_ _|refine blk_drew ?_|refine blk_alloc ?_ _));exact aa.out⟩,⟨by repeat (first|(with_reducible first|exact HB.out|apply below_alloc|apply pw_below_drewN|apply below_drew1|refine below_set ?_ af.out)|exact HB.out)⟩⟩
         rw[if_neg c21]at H
         exact absurd H Z1
        replace c20:=Bool.eq_false_iff.mpr c20
        subst c20
        have H1:(tribunalref03_Parse.j3 bZ am ay false)=some (r1,r2,r3,r4):=by rw[if_neg (show ¬(false=true) by decide)]at H;exact H
        clear H
        have H:=H1
        clear H1
        have H':=Aside0.mk H
        clear H
        go_wp2
        repeat (go_quiet (fail);try go_wp2)
        go_meet
        case rel=>exact⟨_,(am),Y0,H',⟨Za⟩,⟨by(with_reducible repeat (first|refine blk_drewN ?_ _|refine blk_drew ?_|refine blk_alloc ?_ _));exact aa.out⟩,⟨by repeat (first|(with_reducible first|exact HB.out|apply below_alloc|apply pw_below_drewN|apply below_drew1|refine below_set ?_ af.out)|exact HB.out)⟩⟩
       case rest=>
        clear ca
        try clear c1
        try clear p1
        try clear q1
        try clear hx1
        try clear qi1
        try clear c2
        try clear p2
        try clear c3
        try clear bg
        try clear c4
        try clear bC
        try clear p5
        try clear q5
        try clear hx5
        try clear c6
        try clear bh
        try clear bi
        try clear p6
        try clear c7
        try clear bj
        try clear c9
        try clear aA
        try clear bk
        try clear c10
        try clear aU
        try clear aV
        try clear c11
        try clear aW
        try clear aX
        try clear c13
        try clear aY
        try clear aZ
        try clear c14
        try clear bb
        try clear bc
        try clear c16
        try clear aw
        try clear aF
        try clear c17
        try clear bz
        try clear bA
        try clear p18
        try clear q18
        try clear bQ
        try clear bR
        try clear c20
        try clear c21
        try clear bS
        try clear bT
        try clear p1
        try clear p18
        try clear p2
        try clear p5
        try clear p6
        try clear q1
        try clear q18
        try clear q5
        obtain⟨kq,aI,rfl,HA,HJ18,aa,HB⟩:=hcut
        cases kq with
        | zero=>exact absurd HA.out (by simp[tribunalref03_Parse.j3])
        | succ au=>
         have H:=HA.out
         clear HA
         simp only[tribunalref03_Parse.j3]at H
         replace H:=Option.bind_eq_some_iff.mp H
         obtain⟨⟨t1131,t1132,aJ⟩,cJ,H⟩:=H
         replace H:((tribunalref02_Read.f au ay).bind fun aH=>(if aJ=true then(tribunalref03_Parse.j4 au ap (!aH.2.2) t1131 t1132 aH.1 aH.2.1) else(tribunalref03_Parse.j4 au ap true t1131 t1132 aH.1 aH.2.1)))=some (r1,r2,r3,r4):=H
         have A22:=Aside0.mk cJ
         clear cJ
         replace H:=Option.bind_eq_some_iff.mp H
         obtain⟨⟨t1137,t1138,aK⟩,cK,H⟩:=H
         replace H:(if aJ=true then(tribunalref03_Parse.j4 au ap (!aK) t1131 t1132 t1137 t1138) else(tribunalref03_Parse.j4 au ap true t1131 t1132 t1137 t1138))=some (r1,r2,r3,r4):=H
         have A23:=Aside0.mk cK
         clear cK
         have cb:=Aside0.mk H
         clear H
         go_upto_region 15 with(first|(go_at_call 82;(with_reducible refine(tribunalref02_Read.calls au aI t1131 t1132 aJ _ A22.out).mono ?_);rintro e w25 ⟨cd,rfl,ho0,hb⟩;have HO1134:=Aside0.mk (Kd.V_lower (Kd.V_mono (ok':=fun k_=>k_≠ad) ho0 (fun k_ hk_=>(kfb aa hk_))) (below_size (khu HB.out)));replace aa:=kbb aa hb;replace HB:=kbs HB hb;(try clear hb);(try clear hb2);(try clear hk);(try clear hi);(try clear ho0))|(refine gd 9 rfl ?_;refine kbe 9 #[.bool false,.slice none 0 0] 73 ?_;intro gb1136 hg w26 hbox hb;replace HO1134:=Aside0.mk (Kd.V_below (Kd.V_elderB (kvu HO1134.out) gb1136 (Nat.le_of_eq hg.symm)) hb);have ab:=Aside0.mk (hbox);have bW:=Aside0.mk ((by rw[hg];exact(below_size (by repeat (first|(with_reducible first|exact HB.out|apply below_alloc|apply pw_below_drewN|apply below_drew1|refine below_set ?_ af.out)|exact HB.out))):w.heap.size≤gb1136));have aj:=Aside0.mk ((by rw[hg];exact(below_size (by repeat (first|(with_reducible first|exact HB.out|apply below_alloc|apply pw_below_drewN|apply below_drew1|refine below_set ?_ af.out)|exact HB.out))):w.heap.size≤gb1136));replace HB:=Aside0.mk (below_step (by repeat (first|(with_reducible first|exact HB.out|apply below_alloc|apply pw_below_drewN|apply below_drew1|refine below_set ?_ af.out)|exact HB.out)) hb);have ae:=knl hg aa;have ak:=kng hg aa;replace aa:=kbb aa hb;clear hb hbox hg;have ce:=ak.out;have cf:=ae.out;have aL:w26.cell? ⟨gb1136,0,none⟩=some (.bool false):=(blk_cell ab.out 0).trans rfl;have aM:w26.cell? ⟨gb1136,1,none⟩=some (.slice none 0 0):=(blk_cell ab.out 1).trans rfl;have aN:=blk_frozen ab.out 0;have aO:=blk_frozen ab.out 1;obtain⟨Ao29,co29,bD⟩:=Kd.V_slice HO1134.out;subst bD)|(go_at_call 82;(with_reducible refine(tribunalref02_Read.calls au ay t1137 t1138 aK _ A23.out).mono ?_);rintro e w30 ⟨cg,rfl,ho0,hb⟩;replace HO1134:=Aside0.mk (Kd.V_below X3 hb);have HO1140:=Aside0.mk (Kd.V_lower (Kd.V_mono (ok':=fun k_=>k_≠ad∧k_≠gb1136) ho0 (fun k_ hk_=>⟨(Kd.freshB (g:=ad) (o:=.cells #[.bool false,.slice none 0 0,.slice none 0 0] 27 (0,0)) (kfa ae (kfa ae (kbu aa.out))) k_ hk_),(Kd.freshB (g:=gb1136) (o:=.cells #[.bool t1131,.slice Ao29 t1132.length co29] 73 (0,0)) (kpu #[.bool t1131,.slice none 0 0] 1 (kpu #[.bool false,.slice none 0 0] 0 (kbu ab.out))) k_ hk_)⟩)) (below_size (by repeat (first|(with_reducible first|exact HB.out|apply below_alloc|apply pw_below_drewN|apply below_drew1|refine below_set ?_ af.out|refine below_set ?_ aj.out)|exact HB.out))));replace aa:=Aside0.mk (blk_below (g:=ad) (o:=.cells #[.bool false,.slice none 0 0,.slice none 0 0] 27 (0,0)) (kfa ae (kfa ae (kbu aa.out))) hb);replace ab:=Aside0.mk (blk_below (g:=gb1136) (o:=.cells #[.bool t1131,.slice Ao29 t1132.length co29] 73 (0,0)) (kpu #[.bool t1131,.slice none 0 0] 1 (kpu #[.bool false,.slice none 0 0] 0 (kbu ab.out))) hb);replace HB:=Aside0.mk (below_step (by repeat (first|(with_reducible first|exact HB.out|apply below_alloc|apply pw_below_drewN|apply below_drew1|refine below_set ?_ af.out|refine below_set ?_ aj.out)|exact HB.out)) hb);(try clear hb);(try clear hb2);(try clear hk);(try clear hi);(try clear ho0))|(refine gd 11 rfl ?_;refine kbe 11 #[.bool false,.slice none 0 0] 73 ?_;intro gb1142 hg w31 hbox hb;replace HO1134:=Aside0.mk (Kd.V_below (Kd.V_elderB (kvu HO1134.out) gb1142 (Nat.le_of_eq hg.symm)) hb);replace HO1140:=Aside0.mk (Kd.V_below (Kd.V_elderB (kvu HO1140.out) gb1142 (Nat.le_of_eq hg.symm)) hb);have ac:=Aside0.mk (hbox);have bX:=kbz hg HB;have an:=kbz hg HB;replace HB:=kbs HB hb;have ah:=knl hg aa;have al:=kng hg aa;replace aa:=kbb aa hb;have ai:=knl hg ab;have ag:=kng hg ab;replace ab:=kbb ab hb;clear hb hbox hg;have ch:=al.out;have ci:=ah.out;have cj:=ag.out;have ck:=ai.out;have aP:w31.cell? ⟨gb1142,0,none⟩=some (.bool false):=(blk_cell ac.out 0).trans rfl;have aQ:w31.cell? ⟨gb1142,1,none⟩=some (.slice none 0 0):=(blk_cell ac.out 1).trans rfl;have aR:=blk_frozen ac.out 0;have aS:=blk_frozen ac.out 1;obtain⟨Ao35,co35,bE⟩:=Kd.V_slice HO1140.out;subst bE))
         repeat (go_quiet (first|(go_at_call 82;(with_reducible refine(tribunalref02_Read.calls au aI t1131 t1132 aJ _ A22.out).mono ?_);rintro e w25 ⟨cd,rfl,ho0,hb⟩;have HO1134:=Aside0.mk (Kd.V_lower (Kd.V_mono (ok':=fun k_=>k_≠ad) ho0 (fun k_ hk_=>(kfb aa hk_))) (below_size (khu HB.out)));replace aa:=kbb aa hb;replace HB:=kbs HB hb;(try clear hb);(try clear hb2);(try clear hk);(try clear hi);(try clear ho0))|(refine gd 9 rfl ?_;refine kbe 9 #[.bool false,.slice none 0 0] 73 ?_;intro gb1136 hg w26 hbox hb;replace HO1134:=Aside0.mk (Kd.V_below (Kd.V_elderB (kvu HO1134.out) gb1136 (Nat.le_of_eq hg.symm)) hb);have ab:=Aside0.mk (hbox);have bW:=Aside0.mk ((by rw[hg];exact(below_size (by repeat (first|(with_reducible first|exact HB.out|apply below_alloc|apply pw_below_drewN|apply below_drew1|refine below_set ?_ af.out)|exact HB.out))):w.heap.size≤gb1136));have aj:=Aside0.mk ((by rw[hg];exact(below_size (by repeat (first|(with_reducible first|exact HB.out|apply below_alloc|apply pw_below_drewN|apply below_drew1|refine below_set ?_ af.out)|exact HB.out))):w.heap.size≤gb1136));replace HB:=Aside0.mk (below_step (by repeat (first|(with_reducible first|exact HB.out|apply below_alloc|apply pw_below_drewN|apply below_drew1|refine below_set ?_ af.out)|exact HB.out)) hb);have ae:=knl hg aa;have ak:=kng hg aa;replace aa:=kbb aa hb;clear hb hbox hg;have ce:=ak.out;have cf:=ae.out;have aL:w26.cell? ⟨gb1136,0,none⟩=some (.bool false):=(blk_cell ab.out 0).trans rfl;have aM:w26.cell? ⟨gb1136,1,none⟩=some (.slice none 0 0):=(blk_cell ab.out 1).trans rfl;have aN:=blk_frozen ab.out 0;have aO:=blk_frozen ab.out 1;obtain⟨Ao29,co29,bD⟩:=Kd.V_slice HO1134.out;subst bD)|(go_at_call 82;(with_reducible refine(tribunalref02_Read.calls au ay t1137 t1138 aK _ A23.out).mono ?_);rintro e w30 ⟨cg,rfl,ho0,hb⟩;replace HO1134:=Aside0.mk (Kd.V_below X3 hb);have HO1140:=Aside0.mk (Kd.V_lower (Kd.V_mono (ok':=fun k_=>k_≠ad∧k_≠gb1136) ho0 (fun k_ hk_=>⟨(Kd.freshB (g:=ad) (o:=.cells #[.bool false,.slice none 0 0,.slice none 0 0] 27 (0,0)) (kfa ae (kfa ae (kbu aa.out))) k_ hk_),(Kd.freshB (g:=gb1136) (o:=.cells #[.bool t1131,.slice Ao29 t1132.length co29] 73 (0,0)) (kpu #[.bool t1131,.slice none 0 0] 1 (kpu #[.bool false,.slice none 0 0] 0 (kbu ab.out))) k_ hk_)⟩)) (below_size (by repeat (first|(with_reducible first|exact HB.out|apply below_alloc|apply pw_below_drewN|apply below_drew1|refine below_set ?_ af.out|refine below_set ?_ aj.out)|exact HB.out))));replace aa:=Aside0.mk (blk_below (g:=ad) (o:=.cells #[.bool false,.slice none 0 0,.slice none 0 0] 27 (0,0)) (kfa ae (kfa ae (kbu aa.out))) hb);replace ab:=Aside0.mk (blk_below (g:=gb1136) (o:=.cells #[.bool t1131,.slice Ao29 t1132.length co29] 73 (0,0)) (kpu #[.bool t1131,.slice none 0 0] 1 (kpu #[.bool false,.slice none 0 0] 0 (kbu ab.out))) hb);replace HB:=Aside0.mk (below_step (by repeat (first|(with_reducible first|exact HB.out|apply below_alloc|apply pw_below_drewN|apply below_drew1|refine below_set ?_ af.out|refine below_set ?_ aj.out)|exact HB.out)) hb);(try clear hb);(try clear hb2);(try clear hk);(try clear hi);(try clear ho0))|(refine gd 11 rfl ?_;refine kbe 11 #[.bool false,.slice none 0 0] 73 ?_;intro gb1142 hg w31 hbox hb;replace HO1134:=Aside0.mk (Kd.V_below (Kd.V_elderB (kvu HO1134.out) gb1142 (Nat.le_of_eq hg.symm)) hb);replace HO1140:=Aside0.mk (Kd.V_below (Kd.V_elderB (kvu HO1140.out) gb1142 (Nat.le_of_eq hg.symm)) hb);have ac:=Aside0.mk (hbox);have bX:=kbz hg HB;have an:=kbz hg HB;replace HB:=kbs HB hb;have ah:=knl hg aa;have al:=kng hg aa;replace aa:=kbb aa hb;have ai:=knl hg ab;have ag:=kng hg ab;replace ab:=kbb ab hb;clear hb hbox hg;have ch:=al.out;have ci:=ah.out;have cj:=ag.out;have ck:=ai.out;have aP:w31.cell? ⟨gb1142,0,none⟩=some (.bool false):=(blk_cell ac.out 0).trans rfl;have aQ:w31.cell? ⟨gb1142,1,none⟩=some (.slice none 0 0):=(blk_cell ac.out 1).trans rfl;have aR:=blk_frozen ac.out 0;have aS:=blk_frozen ac.out 1;obtain⟨Ao35,co35,bE⟩:=Kd.V_slice HO1140.out;subst bE));go_upto_region 15 with(first|(go_at_call 82;(with_reducible refine(tribunalref02_Read.calls au aI t1131 t1132 aJ _ A22.out).mono ?_);rintro e w25 ⟨cd,rfl,ho0,hb⟩;have HO1134:=Aside0.mk (Kd.V_lower (Kd.V_mono (ok':=fun k_=>k_≠ad) ho0 (fun k_ hk_=>(kfb aa hk_))) (below_size (khu HB.out)));replace aa:=kbb aa hb;replace HB:=kbs HB hb;(try clear hb);(try clear hb2);(try clear hk);(try clear hi);(try clear ho0))|(refine gd 9 rfl ?_;refine kbe 9 #[.bool false,.slice none 0 0] 73 ?_;intro gb1136 hg w26 hbox hb;replace HO1134:=Aside0.mk (Kd.V_below (Kd.V_elderB (kvu HO1134.out) gb1136 (Nat.le_of_eq hg.symm)) hb);have ab:=Aside0.mk (hbox);have bW:=Aside0.mk ((by rw[hg];exact(below_size (by repeat (first|(with_reducible first|exact HB.out|apply below_alloc|apply pw_below_drewN|apply below_drew1|refine below_set ?_ af.out)|exact HB.out))):w.heap.size≤gb1136));have aj:=Aside0.mk ((by rw[hg];exact(below_size (by repeat (first|(with_reducible first|exact HB.out|apply below_alloc|apply pw_below_drewN|apply below_drew1|refine below_set ?_ af.out)|exact HB.out))):w.heap.size≤gb1136));replace HB:=Aside0.mk (below_step (by repeat (first|(with_reducible first|exact HB.out|apply below_alloc|apply pw_below_drewN|apply below_drew1|refine below_set ?_ af.out)|exact HB.out)) hb);have ae:=knl hg aa;have ak:=kng hg aa;replace aa:=kbb aa hb;clear hb hbox hg;have ce:=ak.out;have cf:=ae.out;have aL:w26.cell? ⟨gb1136,0,none⟩=some (.bool false):=(blk_cell ab.out 0).trans rfl;have aM:w26.cell? ⟨gb1136,1,none⟩=some (.slice none 0 0):=(blk_cell ab.out 1).trans rfl;have aN:=blk_frozen ab.out 0;have aO:=blk_frozen ab.out 1;obtain⟨Ao29,co29,bD⟩:=Kd.V_slice HO1134.out;subst bD)|(go_at_call 82;(with_reducible refine(tribunalref02_Read.calls au ay t1137 t1138 aK _ A23.out).mono ?_);rintro e w30 ⟨cg,rfl,ho0,hb⟩;replace HO1134:=Aside0.mk (Kd.V_below X3 hb);have HO1140:=Aside0.mk (Kd.V_lower (Kd.V_mono (ok':=fun k_=>k_≠ad∧k_≠gb1136) ho0 (fun k_ hk_=>⟨(Kd.freshB (g:=ad) (o:=.cells #[.bool false,.slice none 0 0,.slice none 0 0] 27 (0,0)) (kfa ae (kfa ae (kbu aa.out))) k_ hk_),(Kd.freshB (g:=gb1136) (o:=.cells #[.bool t1131,.slice Ao29 t1132.length co29] 73 (0,0)) (kpu #[.bool t1131,.slice none 0 0] 1 (kpu #[.bool false,.slice none 0 0] 0 (kbu ab.out))) k_ hk_)⟩)) (below_size (by repeat (first|(with_reducible first|exact HB.out|apply below_alloc|apply pw_below_drewN|apply below_drew1|refine below_set ?_ af.out|refine below_set ?_ aj.out)|exact HB.out))));replace aa:=Aside0.mk (blk_below (g:=ad) (o:=.cells #[.bool false,.slice none 0 0,.slice none 0 0] 27 (0,0)) (kfa ae (kfa ae (kbu aa.out))) hb);replace ab:=Aside0.mk (blk_below (g:=gb1136) (o:=.cells #[.bool t1131,.slice Ao29 t1132.length co29] 73 (0,0)) (kpu #[.bool t1131,.slice none 0 0] 1 (kpu #[.bool false,.slice none 0 0] 0 (kbu ab.out))) hb);replace HB:=Aside0.mk (below_step (by repeat (first|(with_reducible first|exact HB.out|apply below_alloc|apply pw_below_drewN|apply below_drew1|refine below_set ?_ af.out|refine below_set ?_ aj.out)|exact HB.out)) hb);(try clear hb);(try clear hb2);(try clear hk);(try clear hi);(try clear ho0))|(refine gd 11 rfl ?_;refine kbe 11 #[.bool false,.slice none 0 0] 73 ?_;intro gb1142 hg w31 hbox hb;replace HO1134:=Aside0.mk (Kd.V_below (Kd.V_elderB (kvu HO1134.out) gb1142 (Nat.le_of_eq hg.symm)) hb);replace HO1140:=Aside0.mk (Kd.V_below (Kd.V_elderB (kvu HO1140.out) gb1142 (Nat.le_of_eq hg.symm)) hb);have ac:=Aside0.mk (hbox);have bX:=kbz hg HB;have an:=kbz hg HB;replace HB:=kbs HB hb;have ah:=knl hg aa;have al:=kng hg aa;replace aa:=kbb aa hb;have ai:=knl hg ab;have ag:=kng hg ab;replace ab:=kbb ab hb;clear hb hbox hg;have ch:=al.out;have ci:=ah.out;have cj:=ag.out;have ck:=ai.out;have aP:w31.cell? ⟨gb1142,0,none⟩=some (.bool false):=(blk_cell ac.out 0).trans rfl;have aQ:w31.cell? ⟨gb1142,1,none⟩=some (.slice none 0 0):=(blk_cell ac.out 1).trans rfl;have aR:=blk_frozen ac.out 0;have aS:=blk_frozen ac.out 1;obtain⟨Ao35,co35,bE⟩:=Kd.V_slice HO1140.out;subst bE)))
         (try simp only[Act.put,kss])
         go_cut [64] (fun v64 wc=>∃(kq:Nat) (bd:Bool),v64=.bool bd∧Aside0 (tribunalref03_Parse.j4 kq ap bd t1131 t1132 t1137 t1138=some (r1,r2,r3,r4))∧Aside0 (kq≤au)∧Aside0 (Kd.V (Kd.int .u16) 83 wc w.heap.size (fun k_=>k_≠ad∧k_≠gb1136∧k_≠gb1142) (.slice Ao29 t1132.length co29) t1132)∧Aside0 (Kd.V (Kd.int .u16) 83 wc w.heap.size (fun k_=>k_≠ad∧k_≠gb1136∧k_≠gb1142) (.slice Ao35 t1138.length co35) t1138)∧Aside0 (wc.heap[ad]? = some (.cells #[.bool false,(.slice none 0 0),(.slice none 0 0)] 27 (0,0)))∧Aside0 (wc.heap[gb1136]? = some (.cells #[.bool t1131,(.slice Ao29 t1132.length co29)] 73 (0,0)))∧Aside0 (wc.heap[gb1142]? = some (.cells #[.bool t1137,(.slice Ao35 t1138.length co35)] 73 (0,0)))∧Aside0 (Below w.heap.size w wc))
         case first=>
          have H:=cb.out
          clear cb
          by_cases c36:aJ=true
          ·subst c36
           have H1:(tribunalref03_Parse.j4 au ap (!aK) t1131 t1132 t1137 t1138)=some (r1,r2,r3,r4):=by rw[if_pos rfl]at H;exact H
           clear H
           have H:=H1
           clear H1
           have H':=Aside0.mk H
           clear H
           go_wp2
           repeat (go_quiet (fail);try go_wp2)
           go_meet
           case rel=>exact⟨_,(!aK),Y0,H',⟨V9⟩,⟨X5⟩,⟨Y5⟩,⟨by(with_reducible repeat (first|refine blk_drewN ?_ _|refine blk_drew ?_|refine blk_alloc ?_ _));refine blk_far ?_ ah.out _;(with_reducible repeat (first|refine blk_drewN ?_ _|refine blk_drew ?_|refine blk_alloc ?_ _));refine blk_far ?_ ah.out _;(with_reducible repeat (first|refine blk_drewN ?_ _|refine blk_drew ?_|refine blk_alloc ?_ _));exact aa.out⟩,⟨by(with_reducible repeat (first|refine blk_drewN ?_ _|refine blk_drew ?_|refine blk_alloc ?_ _));refine blk_far ?_ ai.out _;(with_reducible repeat (first|refine blk_drewN ?_ _|refine blk_drew ?_|refine blk_alloc ?_ _));refine blk_far ?_ ai.out _;(with_reducible repeat (first|refine blk_drewN ?_ _|refine blk_drew ?_|refine blk_alloc ?_ _));exact ab.out⟩,⟨by(with_reducible repeat (first|refine blk_drewN ?_ _|refine blk_drew ?_|refine blk_alloc ?_ _));refine blk_put (cs:=#[.bool t1137,.slice none 0 0]) ?_ 1 _ rfl;(with_reducible repeat (first|refine blk_drewN ?_ _|refine blk_drew ?_|refine blk_alloc ?_ _));refine blk_put (cs:=#[.bool false,.slice none 0 0]) ?_ 0 _ rfl;(with_reducible repeat (first|refine blk_drewN ?_ _|refine blk_drew ?_|refine blk_alloc ?_ _));exact ac.out⟩,⟨by repeat (first|(with_reducible first|exact HB.out|apply below_alloc|apply pw_below_drewN|apply below_drew1|refine below_set ?_ af.out|refine below_set ?_ aj.out|refine below_set ?_ an.out)|exact HB.out)⟩⟩
          replace c36:=Bool.eq_false_iff.mpr c36
          subst c36
          have H1:(tribunalref03_Parse.j4 au ap true t1131 t1132 t1137 t1138)=some (r1,r2,r3,r4):=by rw[if_neg (show ¬(false=true) by decide)]at H;exact H
          clear H
          have H:=H1
          clear H1
          have H':=Aside0.mk H
          clear H
          go_wp2
          repeat (go_quiet (fail);try go_wp2)
          go_meet
          case rel=>exact⟨_,(true),Y0,H',⟨V9⟩,⟨X5⟩,⟨Y5⟩,⟨by(with_reducible repeat (first|refine blk_drewN ?_ _|refine blk_drew ?_|refine blk_alloc ?_ _));refine blk_far ?_ ah.out _;(with_reducible repeat (first|refine blk_drewN ?_ _|refine blk_drew ?_|refine blk_alloc ?_ _));refine blk_far ?_ ah.out _;(with_reducible repeat (first|refine blk_drewN ?_ _|refine blk_drew ?_|refine blk_alloc ?_ _));exact aa.out⟩,⟨by(with_reducible repeat (first|refine blk_drewN ?_ _|refine blk_drew ?_|refine blk_alloc ?_ _));refine blk_far ?_ ai.out _;(with_reducible repeat (first|refine blk_drewN ?_ _|refine blk_drew ?_|refine blk_alloc ?_ _));refine blk_far ?_ ai.out _;(with_reducible repeat (first|refine blk_drewN ?_ _|refine blk_drew ?_|refine blk_alloc ?_ _));exact ab.out⟩,⟨by(with_reducible repeat (first|refine blk_drewN ?_ _|refine blk_drew ?_|refine blk_alloc ?_ _));refine blk_put (cs:=#[.bool t1137,.slice none 0 0]) ?_ 1 _ rfl;(with_reducible repeat (first|refine blk_drewN ?_ _|refine blk_drew ?_|refine blk_alloc ?_ _));refine blk_put (cs:=#[.bool false,.slice none 0 0]) ?_ 0 _ rfl;(with_reducible repeat (first|refine blk_drewN ?_ _|refine blk_drew ?_|refine blk_alloc ?_ _));exact ac.out⟩,⟨by repeat (first|(with_reducible first|exact HB.out|apply below_alloc|apply pw_below_drewN|apply below_drew1|refine below_set ?_ af.out|refine below_set ?_ aj.out|refine below_set ?_ an.out)|exact HB.out)⟩⟩
         case rest=>
          clear cb
          try clear c1
          try clear p1
          try clear q1
          try clear hx1
          try clear qi1
          try clear c2
          try clear p2
          try clear c3
          try clear bg
          try clear c4
          try clear bC
          try clear p5
          try clear q5
          try clear hx5
          try clear c6
          try clear bh
          try clear bi
          try clear p6
          try clear c7
          try clear bj
          try clear c9
          try clear aA
          try clear bk
          try clear c10
          try clear aU
          try clear aV
          try clear c11
          try clear aW
          try clear aX
          try clear c13
          try clear aY
          try clear aZ
          try clear c14
          try clear bb
          try clear bc
          try clear c16
          try clear aw
          try clear aF
          try clear c17
          try clear bz
          try clear bA
          try clear p18
          try clear q18
          try clear bQ
          try clear bR
          try clear c20
          try clear c21
          try clear bS
          try clear bT
          try clear c27
          try clear c32
          try clear c33
          try clear c34
          try clear c36
          try clear aL
          try clear aM
          try clear aP
          try clear aQ
          try clear aN
          try clear aO
          try clear aR
          try clear aS
          try clear p1
          try clear p18
          try clear p2
          try clear p5
          try clear p6
          try clear q1
          try clear q18
          try clear q5
          obtain⟨kq,bd,rfl,HA,HJ23,HO_1137001,HO_1143001,aa,ab,ac,HB⟩:=hcut
          cases kq with
          | zero=>exact absurd HA.out (by simp[tribunalref03_Parse.j4])
          | succ av=>
           have H:=HA.out
           clear HA
           simp only[tribunalref03_Parse.j4]at H
           by_cases c37:bd=true
           ·subst c37
            have H1:(some (false,([]:List Int),([]:List Int),13))=some (r1,r2,r3,r4):=by rw[if_pos rfl]at H;exact H
            clear H
            have H:=H1
            clear H1
            simp only[Option.some.injEq,Prod.mk.injEq]at H
            obtain⟨rfl,rfl,rfl,rfl⟩:=H
            have ds:=ae.out
            have dt:=ak.out
            have du:=ah.out
            have dw:=al.out
            have cq:wc.cell? ⟨ad,0,none⟩=some (.bool false):=(blk_cell aa.out 0).trans rfl
            have cr:wc.cell? ⟨ad,1,none⟩=some (.slice none 0 0):=(blk_cell aa.out 1).trans rfl
            have ct:wc.cell? ⟨ad,2,none⟩=some (.slice none 0 0):=(blk_cell aa.out 2).trans rfl
            have cu:=blk_frozen aa.out 0
            have cv:=blk_frozen aa.out 1
            have cw:=blk_frozen aa.out 2
            go_wp2
            repeat (go_quiet (fail);try go_wp2)
            refine bodyPost_ret (results_ct rfl _ _ ad 27 #[.bool false,.slice none 0 0,.slice none 0 0] (0,0) _ rfl (kpu #[.bool false,.slice none 0 0,.slice none 0 0] 2 (kpu #[.bool false,.slice none 0 0,.slice none 0 0] 1 (kpu #[.bool false,.slice none 0 0,.slice none 0 0] 0 (kbu aa.out)))) Tryz.underlying27 rfl X0) rfl ?_
            exact⟨_,_,B0,D0,D0,by repeat (first|(with_reducible first|exact HB.out|apply below_alloc|apply pw_below_drewN|apply below_drew1|refine below_set ?_ af.out|refine below_set ?_ aj.out|refine below_set ?_ an.out)|exact HB.out)⟩
           replace c37:=Bool.eq_false_iff.mpr c37
           subst c37
           have H1:((tribunalref02_Make.f av ap t1132).bind fun aB=>((tribunalref03_long.f aB.1 aB.2).bind fun aT=>(if aT=true then(tribunalref03_Parse.j5 av true aB.1 aB.2 t1137 t1138) else((tribunalref03_long.f t1137 t1138).bind fun ar=>(tribunalref03_Parse.j5 av ar aB.1 aB.2 t1137 t1138)))))=some (r1,r2,r3,r4):=by rw[if_neg (show ¬(false=true) by decide)]at H;exact H
           clear H
           have H:=H1
           clear H1
           replace H:=Option.bind_eq_some_iff.mp H
           obtain⟨⟨t1143,t1144⟩,cL,H⟩:=H
           replace H:((tribunalref03_long.f t1143 t1144).bind fun aT=>(if aT=true then(tribunalref03_Parse.j5 av true t1143 t1144 t1137 t1138) else((tribunalref03_long.f t1137 t1138).bind fun ar=>(tribunalref03_Parse.j5 av ar t1143 t1144 t1137 t1138))))=some (r1,r2,r3,r4):=H
           have A41:=Aside0.mk cL
           clear cL
           have cc:=Aside0.mk H
           clear H
           have dx:=ak.out
           have dy:=ae.out
           have dz:=ai.out
           have dA:=ag.out
           have cx:wc.cell? ⟨gb1136,0,none⟩=some (.bool t1131):=(blk_cell ab.out 0).trans rfl
           have cy:wc.cell? ⟨gb1136,1,none⟩=some (.slice Ao29 t1132.length co29):=(blk_cell ab.out 1).trans rfl
           have cz:=blk_frozen ab.out 0
           have cA:=blk_frozen ab.out 1
           go_upto_region 18 with(first|(go_at_call 84;(with_reducible refine(tribunalref02_Make.calls av ap (fun k_=>(k_≠ad∧(k_≠gb1136∧k_≠gb1142))) _ _ t1132 t1143 t1144 _ ?side1 A41.out).mono ?_);(case side1=>exact HO_1137001.out);rintro e w46 ⟨cl,rfl,ho0,hb⟩;replace HO_1137001:=kvb HO_1137001 hb;replace HO_1143001:=kvb HO_1143001 hb;have HO1146:=Aside0.mk (Kd.V_lower (Kd.V_mono (ok':=fun k_=>k_≠ad∧k_≠gb1136∧k_≠gb1142) ho0 (fun k_ hk_=>⟨Or.elim hk_ (fun hs_=>hs_.1) (kfb aa),Or.elim hk_ (fun hs_=>hs_.2.1) (kfb ab),Or.elim hk_ (fun hs_=>hs_.2.2) (kfb ac)⟩)) (below_size (khu HB.out)));replace aa:=kbb aa hb;replace ab:=kbb ab hb;replace ac:=kbb ac hb;replace HB:=kbs HB hb;(try clear hb);(try clear hb2);(try clear hk);(try clear hi);(try clear ho0);have bl:w46.cell? ⟨gb1136,0,none⟩=some (.bool t1131):=(blk_cell ab.out 0).trans rfl;have bn:w46.cell? ⟨gb1136,1,none⟩=some (.slice Ao29 t1132.length co29):=(blk_cell ab.out 1).trans rfl;have bo:=blk_frozen ab.out 0;have bp:=blk_frozen ab.out 1;obtain⟨Ao48,co48,bF⟩:=Kd.V_slice HO1146.out;subst bF))
           repeat (go_quiet (first|(go_at_call 84;(with_reducible refine(tribunalref02_Make.calls av ap (fun k_=>(k_≠ad∧(k_≠gb1136∧k_≠gb1142))) _ _ t1132 t1143 t1144 _ ?side1 A41.out).mono ?_);(case side1=>exact HO_1137001.out);rintro e w46 ⟨cl,rfl,ho0,hb⟩;replace HO_1137001:=kvb HO_1137001 hb;replace HO_1143001:=kvb HO_1143001 hb;have HO1146:=Aside0.mk (Kd.V_lower (Kd.V_mono (ok':=fun k_=>k_≠ad∧k_≠gb1136∧k_≠gb1142) ho0 (fun k_ hk_=>⟨Or.elim hk_ (fun hs_=>hs_.1) (kfb aa),Or.elim hk_ (fun hs_=>hs_.2.1) (kfb ab),Or.elim hk_ (fun hs_=>hs_.2.2) (kfb ac)⟩)) (below_size (khu HB.out)));replace aa:=kbb aa hb;replace ab:=kbb ab hb;replace ac:=kbb ac hb;replace HB:=kbs HB hb;(try clear hb);(try clear hb2);(try clear hk);(try clear hi);(try clear ho0);have bl:w46.cell? ⟨gb1136,0,none⟩=some (.bool t1131):=(blk_cell ab.out 0).trans rfl;have bn:w46.cell? ⟨gb1136,1,none⟩=some (.slice Ao29 t1132.length co29):=(blk_cell ab.out 1).trans rfl;have bo:=blk_frozen ab.out 0;have bp:=blk_frozen ab.out 1;obtain⟨Ao48,co48,bF⟩:=Kd.V_slice HO1146.out;subst bF));go_upto_region 18 with(first|(go_at_call 84;(with_reducible refine(tribunalref02_Make.calls av ap (fun k_=>(k_≠ad∧(k_≠gb1136∧k_≠gb1142))) _ _ t1132 t1143 t1144 _ ?side1 A41.out).mono ?_);(case side1=>exact HO_1137001.out);rintro e w46 ⟨cl,rfl,ho0,hb⟩;replace HO_1137001:=kvb HO_1137001 hb;replace HO_1143001:=kvb HO_1143001 hb;have HO1146:=Aside0.mk (Kd.V_lower (Kd.V_mono (ok':=fun k_=>k_≠ad∧k_≠gb1136∧k_≠gb1142) ho0 (fun k_ hk_=>⟨Or.elim hk_ (fun hs_=>hs_.1) (kfb aa),Or.elim hk_ (fun hs_=>hs_.2.1) (kfb ab),Or.elim hk_ (fun hs_=>hs_.2.2) (kfb ac)⟩)) (below_size (khu HB.out)));replace aa:=kbb aa hb;replace ab:=kbb ab hb;replace ac:=kbb ac hb;replace HB:=kbs HB hb;(try clear hb);(try clear hb2);(try clear hk);(try clear hi);(try clear ho0);have bl:w46.cell? ⟨gb1136,0,none⟩=some (.bool t1131):=(blk_cell ab.out 0).trans rfl;have bn:w46.cell? ⟨gb1136,1,none⟩=some (.slice Ao29 t1132.length co29):=(blk_cell ab.out 1).trans rfl;have bo:=blk_frozen ab.out 0;have bp:=blk_frozen ab.out 1;obtain⟨Ao48,co48,bF⟩:=Kd.V_slice HO1146.out;subst bF)))
           (try simp only[Act.put,kss])
           go_cut [75] (fun v75 wc=>∃(kq:Nat) (be:Bool),v75=.bool be∧Aside0 (tribunalref03_Parse.j5 kq be t1143 t1144 t1137 t1138=some (r1,r2,r3,r4))∧Aside0 (kq≤av)∧Aside0 (Kd.V (Kd.int .u16) 83 wc w.heap.size (fun k_=>k_≠ad∧k_≠gb1136∧k_≠gb1142) (.slice Ao48 t1144.length co48) t1144)∧Aside0 (Kd.V (Kd.int .u16) 83 wc w.heap.size (fun k_=>k_≠ad∧k_≠gb1136∧k_≠gb1142) (.slice Ao35 t1138.length co35) t1138)∧Aside0 (wc.heap[ad]? = some (.cells #[.bool false,(.slice none 0 0),(.slice none 0 0)] 27 (0,0)))∧Aside0 (wc.heap[gb1136]? = some (.cells #[.bool t1143,(.slice Ao48 t1144.length co48)] 73 (0,0)))∧Aside0 (wc.heap[gb1142]? = some (.cells #[.bool t1137,(.slice Ao35 t1138.length co35)] 73 (0,0)))∧Aside0 (Below w.heap.size w wc))
           case first=>
            have H:=cc.out
            clear cc
            replace H:=Option.bind_eq_some_iff.mp H
            obtain⟨aT,cM,H⟩:=H
            replace H:(if aT=true then(tribunalref03_Parse.j5 av true t1143 t1144 t1137 t1138) else((tribunalref03_long.f t1137 t1138).bind fun ar=>(tribunalref03_Parse.j5 av ar t1143 t1144 t1137 t1138)))=some (r1,r2,r3,r4):=H
            have A49:=Aside0.mk cM
            clear cM
            by_cases c50:aT=true
            ·subst c50
             have H1:(tribunalref03_Parse.j5 av true t1143 t1144 t1137 t1138)=some (r1,r2,r3,r4):=by rw[if_pos rfl]at H;exact H
             clear H
             have H:=H1
             clear H1
             have H':=Aside0.mk H
             clear H
             have dB:=ak.out
             have dC:=ae.out
             have dD:=ai.out
             have dE:=ag.out
             have cB:w46.cell? ⟨gb1136,0,none⟩=some (.bool t1131):=(blk_cell ab.out 0).trans rfl
             have cC:w46.cell? ⟨gb1136,1,none⟩=some (.slice Ao29 t1132.length co29):=(blk_cell ab.out 1).trans rfl
             have cD:=blk_frozen ab.out 0
             have cE:=blk_frozen ab.out 1
             go_wp2_with (first|(go_at_call 55;(with_reducible refine(tribunalref03_long.calls t1143 _ _ t1144 true _ ?side1 ?side2 A49.out).mono ?_);(case side1=>refine(Kd.V_reads' (e:=83) (base:=w.heap.size) (ok:=fun k_=>(k_≠ad∧(k_≠gb1136∧k_≠gb1142))) (n:=t1144.length) (c:=co48) ?_).2.2;exact F0);(case side2=>exact(Kd.V_reads' HO1146.out).2.1);rintro e w54 ⟨rfl,hb⟩;replace HO_1137001:=Aside0.mk (Kd.V_below J1 hb);replace HO_1143001:=Aside0.mk (Kd.V_below X1 hb);replace HO1146:=Aside0.mk (Kd.V_below F0 hb);replace aa:=Aside0.mk (blk_below (g:=ad) (o:=.cells #[.bool false,.slice none 0 0,.slice none 0 0] 27 (0,0)) (kfa ae (kfa ae (kbu aa.out))) hb);replace ab:=Aside0.mk (blk_below (g:=gb1136) (o:=.cells #[.bool t1143,.slice Ao48 t1144.length co48] 73 (0,0)) (kpu #[.bool t1143,.slice Ao29 t1132.length co29] 1 (kpu #[.bool t1131,.slice Ao29 t1132.length co29] 0 (kbu ab.out))) hb);replace ac:=Aside0.mk (blk_below (g:=gb1142) (o:=.cells #[.bool t1137,.slice Ao35 t1138.length co35] 73 (0,0)) (kfa ag (kfa ag (kbu ac.out))) hb);replace HB:=Aside0.mk (below_step (by repeat (first|(with_reducible first|exact HB.out|apply below_alloc|apply pw_below_drewN|apply below_drew1|refine below_set ?_ af.out|refine below_set ?_ aj.out|refine below_set ?_ an.out)|exact HB.out)) hb);(try clear hb);(try clear hb2);(try clear hk);(try clear hi)))
             repeat (go_quiet (first|(go_at_call 55;(with_reducible refine(tribunalref03_long.calls t1143 _ _ t1144 true _ ?side1 ?side2 A49.out).mono ?_);(case side1=>refine(Kd.V_reads' (e:=83) (base:=w.heap.size) (ok:=fun k_=>(k_≠ad∧(k_≠gb1136∧k_≠gb1142))) (n:=t1144.length) (c:=co48) ?_).2.2;exact F0);(case side2=>exact(Kd.V_reads' HO1146.out).2.1);rintro e w54 ⟨rfl,hb⟩;replace HO_1137001:=Aside0.mk (Kd.V_below J1 hb);replace HO_1143001:=Aside0.mk (Kd.V_below X1 hb);replace HO1146:=Aside0.mk (Kd.V_below F0 hb);replace aa:=Aside0.mk (blk_below (g:=ad) (o:=.cells #[.bool false,.slice none 0 0,.slice none 0 0] 27 (0,0)) (kfa ae (kfa ae (kbu aa.out))) hb);replace ab:=Aside0.mk (blk_below (g:=gb1136) (o:=.cells #[.bool t1143,.slice Ao48 t1144.length co48] 73 (0,0)) (kpu #[.bool t1143,.slice Ao29 t1132.length co29] 1 (kpu #[.bool t1131,.slice Ao29 t1132.length co29] 0 (kbu ab.out))) hb);replace ac:=Aside0.mk (blk_below (g:=gb1142) (o:=.cells #[.bool t1137,.slice Ao35 t1138.length co35] 73 (0,0)) (kfa ag (kfa ag (kbu ac.out))) hb);replace HB:=Aside0.mk (below_step (by repeat (first|(with_reducible first|exact HB.out|apply below_alloc|apply pw_below_drewN|apply below_drew1|refine below_set ?_ af.out|refine below_set ?_ aj.out|refine below_set ?_ an.out)|exact HB.out)) hb);(try clear hb);(try clear hb2);(try clear hk);(try clear hi)));try go_wp2_with (first|(go_at_call 55;(with_reducible refine(tribunalref03_long.calls t1143 _ _ t1144 true _ ?side1 ?side2 A49.out).mono ?_);(case side1=>refine(Kd.V_reads' (e:=83) (base:=w.heap.size) (ok:=fun k_=>(k_≠ad∧(k_≠gb1136∧k_≠gb1142))) (n:=t1144.length) (c:=co48) ?_).2.2;exact F0);(case side2=>exact(Kd.V_reads' HO1146.out).2.1);rintro e w54 ⟨rfl,hb⟩;replace HO_1137001:=Aside0.mk (Kd.V_below J1 hb);replace HO_1143001:=Aside0.mk (Kd.V_below X1 hb);replace HO1146:=Aside0.mk (Kd.V_below F0 hb);replace aa:=Aside0.mk (blk_below (g:=ad) (o:=.cells #[.bool false,.slice none 0 0,.slice none 0 0] 27 (0,0)) (kfa ae (kfa ae (kbu aa.out))) hb);replace ab:=Aside0.mk (blk_below (g:=gb1136) (o:=.cells #[.bool t1143,.slice Ao48 t1144.length co48] 73 (0,0)) (kpu #[.bool t1143,.slice Ao29 t1132.length co29] 1 (kpu #[.bool t1131,.slice Ao29 t1132.length co29] 0 (kbu ab.out))) hb);replace ac:=Aside0.mk (blk_below (g:=gb1142) (o:=.cells #[.bool t1137,.slice Ao35 t1138.length co35] 73 (0,0)) (kfa ag (kfa ag (kbu ac.out))) hb);replace HB:=Aside0.mk (below_step (by repeat (first|(with_reducible first|exact HB.out|apply below_alloc|apply pw_below_drewN|apply below_drew1|refine below_set ?_ af.out|refine below_set ?_ aj.out|refine below_set ?_ an.out)|exact HB.out)) hb);(try clear hb);(try clear hb2);(try clear hk);(try clear hi))))
             go_meet
             case rel=>exact⟨_,(true),Y0,H',⟨U8⟩,⟨kvu HO1146.out⟩,⟨kvu HO_1143001.out⟩,⟨by(with_reducible repeat (first|refine blk_drewN ?_ _|refine blk_drew ?_|refine blk_alloc ?_ _));exact aa.out⟩,⟨by(with_reducible repeat (first|refine blk_drewN ?_ _|refine blk_drew ?_|refine blk_alloc ?_ _));exact ab.out⟩,⟨by(with_reducible repeat (first|refine blk_drewN ?_ _|refine blk_drew ?_|refine blk_alloc ?_ _));exact ac.out⟩,⟨by repeat (first|(with_reducible first|exact HB.out|apply below_alloc|apply pw_below_drewN|apply below_drew1|refine below_set ?_ af.out|refine below_set ?_ aj.out|refine below_set ?_ an.out)|exact HB.out)⟩⟩
            replace c50:=Bool.eq_false_iff.mpr c50
            subst c50
            have H1:((tribunalref03_long.f t1137 t1138).bind fun ar=>(tribunalref03_Parse.j5 av ar t1143 t1144 t1137 t1138))=some (r1,r2,r3,r4):=by rw[if_neg (show ¬(false=true) by decide)]at H;exact H
            clear H
            have H:=H1
            clear H1
            replace H:=Option.bind_eq_some_iff.mp H
            obtain⟨ar,cN,H⟩:=H
            replace H:(tribunalref03_Parse.j5 av ar t1143 t1144 t1137 t1138)=some (r1,r2,r3,r4):=H
            have A55:=Aside0.mk cN
            clear cN
            have H':=Aside0.mk H
            clear H
            have dF:=ak.out
            have dG:=ae.out
            have dH:=ai.out
            have dI:=ag.out
            have cF:w46.cell? ⟨gb1136,0,none⟩=some (.bool t1131):=(blk_cell ab.out 0).trans rfl
            have cG:w46.cell? ⟨gb1136,1,none⟩=some (.slice Ao29 t1132.length co29):=(blk_cell ab.out 1).trans rfl
            have cH:=blk_frozen ab.out 0
            have cI:=blk_frozen ab.out 1
            go_wp2_with (first|(go_at_call 55;(with_reducible refine(tribunalref03_long.calls t1143 _ _ t1144 false _ ?side1 ?side2 A49.out).mono ?_);(case side1=>refine(Kd.V_reads' (e:=83) (base:=w.heap.size) (ok:=fun k_=>(k_≠ad∧(k_≠gb1136∧k_≠gb1142))) (n:=t1144.length) (c:=co48) ?_).2.2;exact F0);(case side2=>exact(Kd.V_reads' HO1146.out).2.1);rintro e w59 ⟨rfl,hb⟩;replace HO_1137001:=Aside0.mk (Kd.V_below J1 hb);replace HO_1143001:=Aside0.mk (Kd.V_below X1 hb);replace HO1146:=Aside0.mk (Kd.V_below F0 hb);replace aa:=Aside0.mk (blk_below (g:=ad) (o:=.cells #[.bool false,.slice none 0 0,.slice none 0 0] 27 (0,0)) (kfa ae (kfa ae (kbu aa.out))) hb);replace ab:=Aside0.mk (blk_below (g:=gb1136) (o:=.cells #[.bool t1143,.slice Ao48 t1144.length co48] 73 (0,0)) (kpu #[.bool t1143,.slice Ao29 t1132.length co29] 1 (kpu #[.bool t1131,.slice Ao29 t1132.length co29] 0 (kbu ab.out))) hb);replace ac:=Aside0.mk (blk_below (g:=gb1142) (o:=.cells #[.bool t1137,.slice Ao35 t1138.length co35] 73 (0,0)) (kfa ag (kfa ag (kbu ac.out))) hb);replace HB:=Aside0.mk (below_step (by repeat (first|(with_reducible first|exact HB.out|apply below_alloc|apply pw_below_drewN|apply below_drew1|refine below_set ?_ af.out|refine below_set ?_ aj.out|refine below_set ?_ an.out)|exact HB.out)) hb);(try clear hb);(try clear hb2);(try clear hk);(try clear hi);have cm:=al.out;have cn:=ah.out;have bq:w59.cell? ⟨gb1142,0,none⟩=some (.bool t1137):=(blk_cell ac.out 0).trans rfl;have br:w59.cell? ⟨gb1142,1,none⟩=some (.slice Ao35 t1138.length co35):=(blk_cell ac.out 1).trans rfl;have bu:=blk_frozen ac.out 0;have bv:=blk_frozen ac.out 1)|(go_at_call 55;(with_reducible refine(tribunalref03_long.calls t1137 _ _ t1138 ar _ ?side1 ?side2 A55.out).mono ?_);(case side1=>repeat (first|exact(Kd.V_reads' HO_1143001.out).2.2|(with_reducible refine Kd.C_alloc ?_ _)|(with_reducible refine Kd.C_drewN ?_ _)|(with_reducible refine Kd.C_drew ?_)));(case side2=>exact(Kd.V_reads' HO_1143001.out).2.1);rintro e w62 ⟨rfl,hb⟩;replace HO_1137001:=kvb HO_1137001 hb;replace HO_1143001:=kvb HO_1143001 hb;replace HO1146:=kvb HO1146 hb;replace aa:=kbb aa hb;replace ab:=kbb ab hb;replace ac:=kbb ac hb;replace HB:=Aside0.mk (below_step (by repeat (first|(with_reducible first|exact HB.out|apply below_alloc|apply pw_below_drewN|apply below_drew1|refine below_set ?_ af.out|refine below_set ?_ aj.out|refine below_set ?_ an.out)|exact HB.out)) hb);(try clear hb);(try clear hb2);(try clear hk);(try clear hi)))
            repeat (go_quiet (first|(go_at_call 55;(with_reducible refine(tribunalref03_long.calls t1143 _ _ t1144 false _ ?side1 ?side2 A49.out).mono ?_);(case side1=>refine(Kd.V_reads' (e:=83) (base:=w.heap.size) (ok:=fun k_=>(k_≠ad∧(k_≠gb1136∧k_≠gb1142))) (n:=t1144.length) (c:=co48) ?_).2.2;exact F0);(case side2=>exact(Kd.V_reads' HO1146.out).2.1);rintro e w59 ⟨rfl,hb⟩;replace HO_1137001:=Aside0.mk (Kd.V_below J1 hb);replace HO_1143001:=Aside0.mk (Kd.V_below X1 hb);replace HO1146:=Aside0.mk (Kd.V_below F0 hb);replace aa:=Aside0.mk (blk_below (g:=ad) (o:=.cells #[.bool false,.slice none 0 0,.slice none 0 0] 27 (0,0)) (kfa ae (kfa ae (kbu aa.out))) hb);replace ab:=Aside0.mk (blk_below (g:=gb1136) (o:=.cells #[.bool t1143,.slice Ao48 t1144.length co48] 73 (0,0)) (kpu #[.bool t1143,.slice Ao29 t1132.length co29] 1 (kpu #[.bool t1131,.slice Ao29 t1132.length co29] 0 (kbu ab.out))) hb);replace ac:=Aside0.mk (blk_below (g:=gb1142) (o:=.cells #[.bool t1137,.slice Ao35 t1138.length co35] 73 (0,0)) (kfa ag (kfa ag (kbu ac.out))) hb);replace HB:=Aside0.mk (below_step (by repeat (first|(with_reducible first|exact HB.out|apply below_alloc|apply pw_below_drewN|apply below_drew1|refine below_set ?_ af.out|refine below_set ?_ aj.out|refine below_set ?_ an.out)|exact HB.out)) hb);(try clear hb);(try clear hb2);(try clear hk);(try clear hi);have cm:=al.out;have cn:=ah.out;have bq:w59.cell? ⟨gb1142,0,none⟩=some (.bool t1137):=(blk_cell ac.out 0).trans rfl;have br:w59.cell? ⟨gb1142,1,none⟩=some (.slice Ao35 t1138.length co35):=(blk_cell ac.out 1).trans rfl;have bu:=blk_frozen ac.out 0;have bv:=blk_frozen ac.out 1)|(go_at_call 55;(with_reducible refine(tribunalref03_long.calls t1137 _ _ t1138 ar _ ?side1 ?side2 A55.out).mono ?_);(case side1=>repeat (first|exact(Kd.V_reads' HO_1143001.out).2.2|(with_reducible refine Kd.C_alloc ?_ _)|(with_reducible refine Kd.C_drewN ?_ _)|(with_reducible refine Kd.C_drew ?_)));(case side2=>exact(Kd.V_reads' HO_1143001.out).2.1);rintro e w62 ⟨rfl,hb⟩;replace HO_1137001:=kvb HO_1137001 hb;replace HO_1143001:=kvb HO_1143001 hb;replace HO1146:=kvb HO1146 hb;replace aa:=kbb aa hb;replace ab:=kbb ab hb;replace ac:=kbb ac hb;replace HB:=Aside0.mk (below_step (by repeat (first|(with_reducible first|exact HB.out|apply below_alloc|apply pw_below_drewN|apply below_drew1|refine below_set ?_ af.out|refine below_set ?_ aj.out|refine below_set ?_ an.out)|exact HB.out)) hb);(try clear hb);(try clear hb2);(try clear hk);(try clear hi)));try go_wp2_with (first|(go_at_call 55;(with_reducible refine(tribunalref03_long.calls t1143 _ _ t1144 false _ ?side1 ?side2 A49.out).mono ?_);(case side1=>refine(Kd.V_reads' (e:=83) (base:=w.heap.size) (ok:=fun k_=>(k_≠ad∧(k_≠gb1136∧k_≠gb1142))) (n:=t1144.length) (c:=co48) ?_).2.2;exact F0);(case side2=>exact(Kd.V_reads' HO1146.out).2.1);rintro e w59 ⟨rfl,hb⟩;replace HO_1137001:=Aside0.mk (Kd.V_below J1 hb);replace HO_1143001:=Aside0.mk (Kd.V_below X1 hb);replace HO1146:=Aside0.mk (Kd.V_below F0 hb);replace aa:=Aside0.mk (blk_below (g:=ad) (o:=.cells #[.bool false,.slice none 0 0,.slice none 0 0] 27 (0,0)) (kfa ae (kfa ae (kbu aa.out))) hb);replace ab:=Aside0.mk (blk_below (g:=gb1136) (o:=.cells #[.bool t1143,.slice Ao48 t1144.length co48] 73 (0,0)) (kpu #[.bool t1143,.slice Ao29 t1132.length co29] 1 (kpu #[.bool t1131,.slice Ao29 t1132.length co29] 0 (kbu ab.out))) hb);replace ac:=Aside0.mk (blk_below (g:=gb1142) (o:=.cells #[.bool t1137,.slice Ao35 t1138.length co35] 73 (0,0)) (kfa ag (kfa ag (kbu ac.out))) hb);replace HB:=Aside0.mk (below_step (by repeat (first|(with_reducible first|exact HB.out|apply below_alloc|apply pw_below_drewN|apply below_drew1|refine below_set ?_ af.out|refine below_set ?_ aj.out|refine below_set ?_ an.out)|exact HB.out)) hb);(try clear hb);(try clear hb2);(try clear hk);(try clear hi);have cm:=al.out;have cn:=ah.out;have bq:w59.cell? ⟨gb1142,0,none⟩=some (.bool t1137):=(blk_cell ac.out 0).trans rfl;have br:w59.cell? ⟨gb1142,1,none⟩=some (.slice Ao35 t1138.length co35):=(blk_cell ac.out 1).trans rfl;have bu:=blk_frozen ac.out 0;have bv:=blk_frozen ac.out 1)|(go_at_call 55;(with_reducible refine(tribunalref03_long.calls t1137 _ _ t1138 ar _ ?side1 ?side2 A55.out).mono ?_);(case side1=>repeat (first|exact(Kd.V_reads' HO_1143001.out).2.2|(with_reducible refine Kd.C_alloc ?_ _)|(with_reducible refine Kd.C_drewN ?_ _)|(with_reducible refine Kd.C_drew ?_)));(case side2=>exact(Kd.V_reads' HO_1143001.out).2.1);rintro e w62 ⟨rfl,hb⟩;replace HO_1137001:=kvb HO_1137001 hb;replace HO_1143001:=kvb HO_1143001 hb;replace HO1146:=kvb HO1146 hb;replace aa:=kbb aa hb;replace ab:=kbb ab hb;replace ac:=kbb ac hb;replace HB:=Aside0.mk (below_step (by repeat (first|(with_reducible first|exact HB.out|apply below_alloc|apply pw_below_drewN|apply below_drew1|refine below_set ?_ af.out|refine below_set ?_ aj.out|refine below_set ?_ an.out)|exact HB.out)) hb);(try clear hb);(try clear hb2);(try clear hk);(try clear hi))))
            go_meet
            case rel=>exact⟨_,(ar),Y0,H',⟨U8⟩,⟨kvu HO1146.out⟩,⟨kvu HO_1143001.out⟩,⟨by(with_reducible repeat (first|refine blk_drewN ?_ _|refine blk_drew ?_|refine blk_alloc ?_ _));exact aa.out⟩,⟨by(with_reducible repeat (first|refine blk_drewN ?_ _|refine blk_drew ?_|refine blk_alloc ?_ _));exact ab.out⟩,⟨by(with_reducible repeat (first|refine blk_drewN ?_ _|refine blk_drew ?_|refine blk_alloc ?_ _));exact ac.out⟩,⟨by repeat (first|(with_reducible first|exact HB.out|apply below_alloc|apply pw_below_drewN|apply below_drew1|refine below_set ?_ af.out|refine below_set ?_ aj.out|refine below_set ?_ an.out)|exact HB.out)⟩⟩
           case rest=>
            clear cc
            try clear c1
            try clear p1
            try clear q1
            try clear hx1
            try clear qi1
            try clear c2
            try clear p2
            try clear c3
            try clear bg
            try clear c4
            try clear bC
            try clear c5
            try clear p5
            try clear q5
            try clear hx5
            try clear c6
            try clear bh
            try clear bi
            try clear p6
            try clear c7
            try clear bj
            try clear c9
            try clear aA
            try clear bk
            try clear c10
            try clear aU
            try clear aV
            try clear c11
            try clear aW
            try clear aX
            try clear c13
            try clear aY
            try clear aZ
            try clear c14
            try clear bb
            try clear bc
            try clear c16
            try clear aw
            try clear aF
            try clear c17
            try clear bz
            try clear bA
            try clear p18
            try clear q18
            try clear bQ
            try clear bR
            try clear c20
            try clear c21
            try clear bS
            try clear bT
            try clear c27
            try clear c32
            try clear c33
            try clear c34
            try clear c36
            try clear c37
            try clear c38
            try clear c39
            try clear c43
            try clear c44
            try clear c50
            try clear c51
            try clear c52
            try clear c56
            try clear c57
            try clear c60
            try clear aL
            try clear aM
            try clear aP
            try clear aQ
            try clear cq
            try clear cr
            try clear ct
            try clear cx
            try clear cy
            try clear bl
            try clear bn
            try clear cB
            try clear cC
            try clear cF
            try clear cG
            try clear bq
            try clear br
            try clear aN
            try clear aO
            try clear aR
            try clear aS
            try clear cu
            try clear cv
            try clear cw
            try clear cz
            try clear cA
            try clear bo
            try clear bp
            try clear cD
            try clear cE
            try clear cH
            try clear cI
            try clear bu
            try clear bv
            try clear p1
            try clear p18
            try clear p2
            try clear p5
            try clear p6
            try clear q1
            try clear q18
            try clear q5
            obtain⟨kq,be,rfl,HA,ed,HO_1137001,HO_1143001,aa,ab,ac,HB⟩:=hcut
            cases kq with
            | zero=>exact absurd HA.out (by simp[tribunalref03_Parse.j5])
            | succ bU=>
             have H:=HA.out
             clear HA
             simp only[tribunalref03_Parse.j5]at H
             by_cases c63:be=true
             ·subst c63
              have H1:(some (false,([]:List Int),([]:List Int),5))=some (r1,r2,r3,r4):=by rw[if_pos rfl]at H;exact H
              clear H
              have H:=H1
              clear H1
              simp only[Option.some.injEq,Prod.mk.injEq]at H
              obtain⟨rfl,rfl,rfl,rfl⟩:=H
              have dJ:=ae.out
              have dK:=ak.out
              have dL:=ah.out
              have dM:=al.out
              have cR:wc.cell? ⟨ad,0,none⟩=some (.bool false):=(blk_cell aa.out 0).trans rfl
              have cS:wc.cell? ⟨ad,1,none⟩=some (.slice none 0 0):=(blk_cell aa.out 1).trans rfl
              have cT:wc.cell? ⟨ad,2,none⟩=some (.slice none 0 0):=(blk_cell aa.out 2).trans rfl
              have cU:=blk_frozen aa.out 0
              have cV:=blk_frozen aa.out 1
              have cW:=blk_frozen aa.out 2
              go_wp2
              repeat (go_quiet (fail);try go_wp2)
              refine bodyPost_ret (results_ct rfl _ _ ad 27 #[.bool false,.slice none 0 0,.slice none 0 0] (0,0) _ rfl (kpu #[.bool false,.slice none 0 0,.slice none 0 0] 2 (kpu #[.bool false,.slice none 0 0,.slice none 0 0] 1 (kpu #[.bool false,.slice none 0 0,.slice none 0 0] 0 (kbu aa.out)))) Tryz.underlying27 rfl X0) rfl ?_
              exact⟨_,_,B0,D0,D0,by repeat (first|(with_reducible first|exact HB.out|apply below_alloc|apply pw_below_drewN|apply below_drew1|refine below_set ?_ af.out|refine below_set ?_ aj.out|refine below_set ?_ an.out)|exact HB.out)⟩
             replace c63:=Bool.eq_false_iff.mpr c63
             subst c63
             have H1:(if(t1138.length:Int)=0 then(some (false,([]:List Int),([]:List Int),11)) else((tribunalref03_To.f bU t1143 t1144 t1137 t1138).bind fun bf=>(some (bf.1,bf.2.1,bf.2.2.1,bf.2.2.2))))=some (r1,r2,r3,r4):=by rw[if_neg (show ¬(false=true) by decide)]at H;exact H
             clear H
             have H:=H1
             clear H1
             by_cases c67:(t1138.length:Int)=0
             ·rw[if_pos c67]at H
              have cP:((t1138.length:Int)==0)=true:=beq_iff_eq.mpr c67
              have cQ:((t1138.length:Int) != 0)=false:=bne_eq_false_iff_eq.mpr c67
              clear c67
              simp only[Option.some.injEq,Prod.mk.injEq]at H
              obtain⟨rfl,rfl,rfl,rfl⟩:=H
              have dN:=al.out
              have dO:=ah.out
              have dP:=ag.out
              have dQ:=ai.out
              have cX:wc.cell? ⟨gb1142,0,none⟩=some (.bool t1137):=(blk_cell ac.out 0).trans rfl
              have cY:wc.cell? ⟨gb1142,1,none⟩=some (.slice Ao35 t1138.length co35):=(blk_cell ac.out 1).trans rfl
              have cZ:=blk_frozen ac.out 0
              have da:=blk_frozen ac.out 1
              have dR:=ae.out
              have dS:=ak.out
              have db:wc.cell? ⟨ad,0,none⟩=some (.bool false):=(blk_cell aa.out 0).trans rfl
              have dc:wc.cell? ⟨ad,1,none⟩=some (.slice none 0 0):=(blk_cell aa.out 1).trans rfl
              have dd:wc.cell? ⟨ad,2,none⟩=some (.slice none 0 0):=(blk_cell aa.out 2).trans rfl
              have de:=blk_frozen aa.out 0
              have df:=blk_frozen aa.out 1
              have dg:=blk_frozen aa.out 2
              go_wp2
              repeat (go_quiet (fail);try go_wp2)
              refine bodyPost_ret (results_ct rfl _ _ ad 27 #[.bool false,.slice none 0 0,.slice none 0 0] (0,0) _ rfl (kpu #[.bool false,.slice none 0 0,.slice none 0 0] 2 (kpu #[.bool false,.slice none 0 0,.slice none 0 0] 1 (kpu #[.bool false,.slice none 0 0,.slice none 0 0] 0 (kbu aa.out)))) Tryz.underlying27 rfl X0) rfl ?_
              exact⟨_,_,B0,D0,D0,by repeat (first|(with_reducible first|exact HB.out|apply below_alloc|apply pw_below_drewN|apply below_drew1|refine below_set ?_ af.out|refine below_set ?_ aj.out|refine below_set ?_ an.out)|exact HB.out)⟩
             rw[if_neg c67]at H
             have cP:((t1138.length:Int)==0)=false:=beq_eq_false_iff_ne.mpr c67
             have cQ:((t1138.length:Int) != 0)=true:=bne_iff_ne.mpr c67
             have dT:¬(t1138=[]):=fun h_=>c67 (by rw[h_];rfl)
             replace H:=Option.bind_eq_some_iff.mp H
             obtain⟨⟨ax,az,aG,bB⟩,cO,H⟩:=H
             replace H:(some (ax,az,aG,bB))=some (r1,r2,r3,r4):=H
             have A73:=Aside0.mk cO
             clear cO
             simp only[Option.some.injEq,Prod.mk.injEq]at H
             obtain⟨rfl,rfl,rfl,rfl⟩:=H
             have dU:=al.out
             have dV:=ah.out
             have dW:=ag.out
             have dX:=ai.out
             have dh:wc.cell? ⟨gb1142,0,none⟩=some (.bool t1137):=(blk_cell ac.out 0).trans rfl
             have di:wc.cell? ⟨gb1142,1,none⟩=some (.slice Ao35 t1138.length co35):=(blk_cell ac.out 1).trans rfl
             have dj:=blk_frozen ac.out 0
             have dk:=blk_frozen ac.out 1
             have dY:=ak.out
             have dZ:=ae.out
             have dm:wc.cell? ⟨gb1136,0,none⟩=some (.bool t1143):=(blk_cell ab.out 0).trans rfl
             have dn:wc.cell? ⟨gb1136,1,none⟩=some (.slice Ao48 t1144.length co48):=(blk_cell ab.out 1).trans rfl
             have dp:=blk_frozen ab.out 0
             have dq:=blk_frozen ab.out 1
             go_wp2_with (first|(go_at_call 56;(with_reducible refine(tribunalref03_To.calls bU t1143 _ _ t1144 t1137 _ _ t1138 ax az aG bB _ ?side1 ?side2 ?side3 ?side4 A73.out).mono ?_);(case side1=>repeat (first|exact(Kd.V_reads' HO_1137001.out).2.2|(with_reducible refine Kd.C_alloc ?_ _)|(with_reducible refine Kd.C_drewN ?_ _)|(with_reducible refine Kd.C_drew ?_)));(case side2=>exact(Kd.V_reads' HO_1137001.out).2.1);(case side3=>repeat (first|exact(Kd.V_reads' HO_1143001.out).2.2|(with_reducible refine Kd.C_alloc ?_ _)|(with_reducible refine Kd.C_drewN ?_ _)|(with_reducible refine Kd.C_drew ?_)));(case side4=>exact(Kd.V_reads' HO_1143001.out).2.1);rintro e w79 ⟨co,cp,rfl,ho0,ho1,hb⟩;replace HO_1137001:=Aside0.mk (Kd.V_mono (Kd.V_told (Kd.V_told (Kd.V_old (kvu HO_1137001.out) hb) (Kd.R_base ho0)) (Kd.R_base ho1)) (fun _ h_=>h_.1));replace HO_1143001:=Aside0.mk (Kd.V_mono (Kd.V_told (Kd.V_told (Kd.V_old (kvu HO_1143001.out) hb) (Kd.R_base ho0)) (Kd.R_base ho1)) (fun _ h_=>h_.1));have aC:=Aside0.mk (Kd.R_lower ho0 (below_size (khu HB.out)));have aD:=Aside0.mk (Kd.R_lower ho1 (below_size (khu HB.out)));replace aa:=kbb aa hb;replace ab:=kbb ab hb;replace ac:=kbb ac hb;replace HB:=kbs HB hb;(try clear hb);(try clear hb2);(try clear hk);(try clear hi);(try clear ho0);(try clear ho1);have bK:w79.cell? ⟨ad,0,none⟩=some (.bool false):=(blk_cell aa.out 0).trans rfl;have bL:w79.cell? ⟨ad,1,none⟩=some (.slice none 0 0):=(blk_cell aa.out 1).trans rfl;have bM:w79.cell? ⟨ad,2,none⟩=some (.slice none 0 0):=(blk_cell aa.out 2).trans rfl;have bN:=blk_frozen aa.out 0;have bO:=blk_frozen aa.out 1;have bP:=blk_frozen aa.out 2;obtain⟨bw,bx,bG⟩:=Kd.R_slice aC.out;subst bG;obtain⟨bH,bI,bJ⟩:=Kd.R_slice aD.out;subst bJ))
             repeat (go_quiet (first|(go_at_call 56;(with_reducible refine(tribunalref03_To.calls bU t1143 _ _ t1144 t1137 _ _ t1138 ax az aG bB _ ?side1 ?side2 ?side3 ?side4 A73.out).mono ?_);(case side1=>repeat (first|exact(Kd.V_reads' HO_1137001.out).2.2|(with_reducible refine Kd.C_alloc ?_ _)|(with_reducible refine Kd.C_drewN ?_ _)|(with_reducible refine Kd.C_drew ?_)));(case side2=>exact(Kd.V_reads' HO_1137001.out).2.1);(case side3=>repeat (first|exact(Kd.V_reads' HO_1143001.out).2.2|(with_reducible refine Kd.C_alloc ?_ _)|(with_reducible refine Kd.C_drewN ?_ _)|(with_reducible refine Kd.C_drew ?_)));(case side4=>exact(Kd.V_reads' HO_1143001.out).2.1);rintro e w79 ⟨co,cp,rfl,ho0,ho1,hb⟩;replace HO_1137001:=Aside0.mk (Kd.V_mono (Kd.V_told (Kd.V_told (Kd.V_old (kvu HO_1137001.out) hb) (Kd.R_base ho0)) (Kd.R_base ho1)) (fun _ h_=>h_.1));replace HO_1143001:=Aside0.mk (Kd.V_mono (Kd.V_told (Kd.V_told (Kd.V_old (kvu HO_1143001.out) hb) (Kd.R_base ho0)) (Kd.R_base ho1)) (fun _ h_=>h_.1));have aC:=Aside0.mk (Kd.R_lower ho0 (below_size (khu HB.out)));have aD:=Aside0.mk (Kd.R_lower ho1 (below_size (khu HB.out)));replace aa:=kbb aa hb;replace ab:=kbb ab hb;replace ac:=kbb ac hb;replace HB:=kbs HB hb;(try clear hb);(try clear hb2);(try clear hk);(try clear hi);(try clear ho0);(try clear ho1);have bK:w79.cell? ⟨ad,0,none⟩=some (.bool false):=(blk_cell aa.out 0).trans rfl;have bL:w79.cell? ⟨ad,1,none⟩=some (.slice none 0 0):=(blk_cell aa.out 1).trans rfl;have bM:w79.cell? ⟨ad,2,none⟩=some (.slice none 0 0):=(blk_cell aa.out 2).trans rfl;have bN:=blk_frozen aa.out 0;have bO:=blk_frozen aa.out 1;have bP:=blk_frozen aa.out 2;obtain⟨bw,bx,bG⟩:=Kd.R_slice aC.out;subst bG;obtain⟨bH,bI,bJ⟩:=Kd.R_slice aD.out;subst bJ));try go_wp2_with (first|(go_at_call 56;(with_reducible refine(tribunalref03_To.calls bU t1143 _ _ t1144 t1137 _ _ t1138 ax az aG bB _ ?side1 ?side2 ?side3 ?side4 A73.out).mono ?_);(case side1=>repeat (first|exact(Kd.V_reads' HO_1137001.out).2.2|(with_reducible refine Kd.C_alloc ?_ _)|(with_reducible refine Kd.C_drewN ?_ _)|(with_reducible refine Kd.C_drew ?_)));(case side2=>exact(Kd.V_reads' HO_1137001.out).2.1);(case side3=>repeat (first|exact(Kd.V_reads' HO_1143001.out).2.2|(with_reducible refine Kd.C_alloc ?_ _)|(with_reducible refine Kd.C_drewN ?_ _)|(with_reducible refine Kd.C_drew ?_)));(case side4=>exact(Kd.V_reads' HO_1143001.out).2.1);rintro e w79 ⟨co,cp,rfl,ho0,ho1,hb⟩;replace HO_1137001:=Aside0.mk (Kd.V_mono (Kd.V_told (Kd.V_told (Kd.V_old (kvu HO_1137001.out) hb) (Kd.R_base ho0)) (Kd.R_base ho1)) (fun _ h_=>h_.1));replace HO_1143001:=Aside0.mk (Kd.V_mono (Kd.V_told (Kd.V_told (Kd.V_old (kvu HO_1143001.out) hb) (Kd.R_base ho0)) (Kd.R_base ho1)) (fun _ h_=>h_.1));have aC:=Aside0.mk (Kd.R_lower ho0 (below_size (khu HB.out)));have aD:=Aside0.mk (Kd.R_lower ho1 (below_size (khu HB.out)));replace aa:=kbb aa hb;replace ab:=kbb ab hb;replace ac:=kbb ac hb;replace HB:=kbs HB hb;(try clear hb);(try clear hb2);(try clear hk);(try clear hi);(try clear ho0);(try clear ho1);have bK:w79.cell? ⟨ad,0,none⟩=some (.bool false):=(blk_cell aa.out 0).trans rfl;have bL:w79.cell? ⟨ad,1,none⟩=some (.slice none 0 0):=(blk_cell aa.out 1).trans rfl;have bM:w79.cell? ⟨ad,2,none⟩=some (.slice none 0 0):=(blk_cell aa.out 2).trans rfl;have bN:=blk_frozen aa.out 0;have bO:=blk_frozen aa.out 1;have bP:=blk_frozen aa.out 2;obtain⟨bw,bx,bG⟩:=Kd.R_slice aC.out;subst bG;obtain⟨bH,bI,bJ⟩:=Kd.R_slice aD.out;subst bJ)))
             refine bodyPost_ret (results_ct rfl _ _ ad 27 #[.bool ax,.slice bw az.length bx,.slice bH aG.length bI] (0,0) _ rfl (kpu #[.bool ax,.slice bw az.length bx,.slice none 0 0] 2 (kpu #[.bool ax,.slice none 0 0,.slice none 0 0] 1 (kpu #[.bool false,.slice none 0 0,.slice none 0 0] 0 (kbu aa.out)))) Tryz.underlying27 rfl X0) rfl ?_
             exact⟨_,_,B0,by(with_reducible repeat (first|apply Kd.R_alloc|apply Kd.R_drewN|apply Kd.R_drew));exact Kd.R_mono (Kd.R_far (p:=⟨ad,2,none⟩) (Kd.R_far (p:=⟨ad,1,none⟩) (Kd.R_far (p:=⟨ad,0,none⟩) (Kd.R_types aC.out aa.out J0) (fun _ hk=>hk.2) (.bool ax)) (fun _ hk=>hk.2) (.slice bw az.length bx)) (fun _ hk=>hk.2) (.slice bH aG.length bI)) (fun _ hk=>hk.1),by(with_reducible repeat (first|apply Kd.R_alloc|apply Kd.R_drewN|apply Kd.R_drew));exact Kd.R_mono (Kd.R_far (p:=⟨ad,2,none⟩) (Kd.R_far (p:=⟨ad,1,none⟩) (Kd.R_far (p:=⟨ad,0,none⟩) (Kd.R_types aD.out aa.out J0) (fun _ hk=>hk.2) (.bool ax)) (fun _ hk=>hk.2) (.slice bw az.length bx)) (fun _ hk=>hk.2) (.slice bH aG.length bI)) (fun _ hk=>hk.1),by repeat (first|(with_reducible first|exact HB.out|apply below_alloc|apply pw_below_drewN|apply below_drew1|refine below_set ?_ af.out|refine below_set ?_ aj.out|refine below_set ?_ an.out)|exact HB.out)⟩
def tribunallaw03_RatioParses.f (k:Nat) (a0:ByteArray):Option (Bool):=if(a0.size:Int)>20000 then((tribunallaw03_alive.f 80).bind fun t1157=>(some t1157)) else((ratio_Parse.f k a0).bind fun bt1158=>((tribunalref03_Parse.f k a0).bind fun bt1167=>((tribunalref03_Same.f k bt1158.1 bt1158.2.1 bt1158.2.2.1 bt1167.1 bt1167.2.1 bt1167.2.2.1).bind fun t1176=>(if t1176=true then(if bt1158.2.2.2=bt1167.2.2.2 then((tribunallaw03_alive.f 80).bind fun t1177=>(some t1177)) else(none)) else(none)))))
theorem tribunallaw03_RatioParses.calls (k:Nat) (a0:ByteArray) (r:Bool) (w:World) (h:tribunallaw03_RatioParses.f k a0=some r) :
  Calls Tryz.prog 8 #[.string a0] w fun e w'=>e=.returned (.bool r)∧Below w.heap.size w w':=by
 have aU:=Tryz.underlying27
 have HB:=Aside0.mk (Below.refl w.heap.size w)
 have H:(if(a0.size:Int)>20000 then((tribunallaw03_alive.f 80).bind fun ai=>(some ai)) else((ratio_Parse.f k a0).bind fun ah=>((tribunalref03_Parse.f k a0).bind fun ab=>((tribunalref03_Same.f k ah.1 ah.2.1 ah.2.2.1 ab.1 ab.2.1 ab.2.2.1).bind fun ad=>(if ad=true then(if ah.2.2.2=ab.2.2.2 then((tribunallaw03_alive.f 80).bind fun aa=>(some aa)) else(none)) else(none))))))=some r:=h
 clear h
 by_cases c2:(a0.size:Int)>20000
 ·rw[if_pos c2]at H
  have am:decide (20000<(a0.size:Int))=true:=decide_eq_true c2
  have an:decide (20000<a0.size)=true:=decide_eq_true Z0
  clear c2
  replace H:=Option.bind_eq_some_iff.mp H
  obtain⟨ai,A30,H⟩:=H
  replace H:(some ai)=some r:=H
  have A3:=Aside0.mk A30
  clear A30
  obtain rfl:=Option.some.inj H
  go_enter Tryz.func8,Tryz.ntmps8
  go_wp2_with (first|((with_reducible refine gate_callee (f:=16) rfl ?_);refine kgl (some 10) rfl rfl Tryz.func16 #[] rfl ?_;(with_reducible refine(tribunallaw03_alive.calls 80 ai _ A3.out).mono ?_);rintro e w4 ⟨rfl,hb⟩;refine⟨_,rfl,?_⟩;replace HB:=kbs HB hb;(try clear hb);(try clear hb2);(try clear hk);(try clear hi)))
  go_ret
  exact⟨B0,khu HB.out⟩
 rw[if_neg c2]at H
 have am:decide (20000<(a0.size:Int))=false:=decide_eq_false c2
 have an:decide (20000<a0.size)=false:=decide_eq_false Z0
 clear c2
 replace H:=Option.bind_eq_some_iff.mp H
 obtain⟨⟨t1158,t1159,t1162,ae⟩,A50,H⟩:=H
 replace H:((tribunalref03_Parse.f k a0).bind fun ab=>((tribunalref03_Same.f k t1158 t1159 t1162 ab.1 ab.2.1 ab.2.2.1).bind fun ad=>(if ad=true then(if ae=ab.2.2.2 then((tribunallaw03_alive.f 80).bind fun aa=>(some aa)) else(none)) else(none))))=some r:=H
 have A5:=Aside0.mk A50
 clear A50
 replace H:=Option.bind_eq_some_iff.mp H
 obtain⟨⟨t1167,t1168,t1171,ag⟩,A60,H⟩:=H
 replace H:((tribunalref03_Same.f k t1158 t1159 t1162 t1167 t1168 t1171).bind fun ad=>(if ad=true then(if ae=ag then((tribunallaw03_alive.f 80).bind fun aa=>(some aa)) else(none)) else(none)))=some r:=H
 have A6:=Aside0.mk A60
 clear A60
 replace H:=Option.bind_eq_some_iff.mp H
 obtain⟨ad,A70,H⟩:=H
 replace H:(if ad=true then(if ae=ag then((tribunallaw03_alive.f 80).bind fun aa=>(some aa)) else(none)) else(none))=some r:=H
 have A7:=Aside0.mk A70
 clear A70
 by_cases c8:ad=true
 ·subst c8
  have H1:(if ae=ag then((tribunallaw03_alive.f 80).bind fun aa=>(some aa)) else(none))=some r:=by rw[if_pos rfl]at H;exact H
  clear H
  have H:=H1
  clear H1
  by_cases c9:ae=ag
  ·rw[if_pos c9]at H
   have aV:(ae==ag)=true:=beq_iff_eq.mpr c9
   have aW:(ae != ag)=false:=bne_eq_false_iff_eq.mpr c9
   clear c9
   replace H:=Option.bind_eq_some_iff.mp H
   obtain⟨aa,al,H⟩:=H
   replace H:(some aa)=some r:=H
   have A10:=Aside0.mk al
   clear al
   obtain rfl:=Option.some.inj H
   go_enter Tryz.func8,Tryz.ntmps8
   go_wp2_with (first|((with_reducible refine gate_callee (f:=33) rfl ?_);refine kgl (some 13) rfl rfl Tryz.func33 #[.string a0] rfl ?_;(with_reducible refine(ratio_Parse.calls k a0 t1158 t1159 t1162 ae _ A5.out).mono ?_);rintro e w11 ⟨aO,aP,rfl,ho0,ho1,hb⟩;refine⟨_,rfl,?_⟩;have HO1161:=Aside0.mk (Kd.R_lower ho0 (below_size (khu HB.out)));have HO1164:=Aside0.mk (Kd.R_lower ho1 (below_size (khu HB.out)));replace HB:=kbs HB hb;(try clear hb);(try clear hb2);(try clear hk);(try clear hi);(try clear ho0);(try clear ho1))|(refine gd 3 rfl ?_;refine kbe 3 #[.bool false,.slice none 0 0,.slice none 0 0] 27 ?_;intro gb1166 hg w12 hbox hb;replace HO1161:=krb HO1161 hb;replace HO1164:=krb HO1164 hb;have BK1166:=Aside0.mk (hbox);have aM:=kbz hg HB;have af:=kbz hg HB;replace HB:=kbs HB hb;clear hb hbox hg;have au:w12.cell? ⟨gb1166,0,none⟩=some (.bool false):=(blk_cell BK1166.out 0).trans rfl;have av:w12.cell? ⟨gb1166,1,none⟩=some (.slice none 0 0):=(blk_cell BK1166.out 1).trans rfl;have aw:w12.cell? ⟨gb1166,2,none⟩=some (.slice none 0 0):=(blk_cell BK1166.out 2).trans rfl;have ax:=blk_frozen BK1166.out 0;have ay:=blk_frozen BK1166.out 1;have az:=blk_frozen BK1166.out 2;obtain⟨Ao14,co14,ao⟩:=Kd.R_slice HO1161.out;subst ao;obtain⟨Ao15,co15,ap⟩:=Kd.R_slice HO1164.out;subst ap)|((with_reducible refine gate_callee (f:=34) rfl ?_);refine kgl (some 18) rfl rfl Tryz.func34 #[.string a0] rfl ?_;(with_reducible refine(tribunalref03_Parse.calls k a0 t1167 t1168 t1171 ag _ A6.out).mono ?_);rintro e w16 ⟨aQ,aR,rfl,ho0,ho1,hb⟩;refine⟨_,rfl,?_⟩;have HO1170:=Aside0.mk (Kd.R_lower (Kd.R_new' (Kd.R_new' ho0 (Kd.R_lt J2)) (Kd.R_lt U2)) (below_size (by repeat (first|(with_reducible first|exact HB.out|apply below_alloc|apply pw_below_drewN|apply below_drew1|refine below_set ?_ af.out)|exact HB.out))));have HO1173:=Aside0.mk (Kd.R_lower (Kd.R_new' (Kd.R_new' ho1 (Kd.R_lt J2)) (Kd.R_lt U2)) (below_size (by repeat (first|(with_reducible first|exact HB.out|apply below_alloc|apply pw_below_drewN|apply below_drew1|refine below_set ?_ af.out)|exact HB.out))));replace HO1161:=Aside0.mk (Kd.R_mono (Kd.R_told (Kd.R_told (Kd.R_old J2 hb) (Kd.R_base ho0)) (Kd.R_base ho1)) (fun _ h_=>h_.1));replace HO1164:=Aside0.mk (Kd.R_mono (Kd.R_told (Kd.R_told (Kd.R_old U2 hb) (Kd.R_base ho0)) (Kd.R_base ho1)) (fun _ h_=>h_.1));replace BK1166:=Aside0.mk (blk_below (g:=gb1166) (o:=.cells #[.bool t1158,.slice Ao14 t1159.length co14,.slice Ao15 t1162.length co15] 27 (0,0)) (kpu #[.bool t1158,.slice Ao14 t1159.length co14,.slice none 0 0] 2 (kpu #[.bool t1158,.slice none 0 0,.slice none 0 0] 1 (kpu #[.bool false,.slice none 0 0,.slice none 0 0] 0 (kbu BK1166.out)))) hb);replace HB:=Aside0.mk (below_step (by repeat (first|(with_reducible first|exact HB.out|apply below_alloc|apply pw_below_drewN|apply below_drew1|refine below_set ?_ af.out)|exact HB.out)) hb);(try clear hb);(try clear hb2);(try clear hk);(try clear hi);(try clear ho0);(try clear ho1))|(refine gd 5 rfl ?_;refine kbe 5 #[.bool false,.slice none 0 0,.slice none 0 0] 27 ?_;intro gb1175 hg w17 hbox hb;replace HO1161:=krb HO1161 hb;replace HO1164:=krb HO1164 hb;replace HO1170:=krb HO1170 hb;replace HO1173:=krb HO1173 hb;have BK1175:=Aside0.mk (hbox);have aN:=kbz hg HB;have aj:=kbz hg HB;replace HB:=kbs HB hb;have ac:=knl hg BK1166;have ak:=kng hg BK1166;replace BK1166:=kbb BK1166 hb;clear hb hbox hg;have aS:=ak.out;have aT:=ac.out;have aA:w17.cell? ⟨gb1175,0,none⟩=some (.bool false):=(blk_cell BK1175.out 0).trans rfl;have aB:w17.cell? ⟨gb1175,1,none⟩=some (.slice none 0 0):=(blk_cell BK1175.out 1).trans rfl;have aC:w17.cell? ⟨gb1175,2,none⟩=some (.slice none 0 0):=(blk_cell BK1175.out 2).trans rfl;have aD:=blk_frozen BK1175.out 0;have aE:=blk_frozen BK1175.out 1;have aF:=blk_frozen BK1175.out 2;obtain⟨Ao20,co20,aq⟩:=Kd.R_slice HO1170.out;subst aq;obtain⟨Ao21,co21,ar⟩:=Kd.R_slice HO1173.out;subst ar;have aG:w17.cell? ⟨gb1166,0,none⟩=some (.bool t1158):=(blk_cell BK1166.out 0).trans rfl;have aH:w17.cell? ⟨gb1166,1,none⟩=some (.slice Ao14 t1159.length co14):=(blk_cell BK1166.out 1).trans rfl;have aI:w17.cell? ⟨gb1166,2,none⟩=some (.slice Ao15 t1162.length co15):=(blk_cell BK1166.out 2).trans rfl;have aJ:=blk_frozen BK1166.out 0;have aK:=blk_frozen BK1166.out 1;have aL:=blk_frozen BK1166.out 2)|((with_reducible refine gate_callee (f:=21) rfl ?_);refine kgl (some 23) rfl rfl Tryz.func21 #[.agg #[.bool t1158,.slice Ao14 t1159.length co14,.slice Ao15 t1162.length co15],.agg #[.bool t1167,.slice Ao20 t1168.length co20,.slice Ao21 t1171.length co21]] rfl ?_;(with_reducible refine(tribunalref03_Same.calls k t1158 _ _ t1159 _ _ t1162 t1167 _ _ t1168 _ _ t1171 true _ ?side1 ?side2 ?side3 ?side4 ?side5 ?side6 ?side7 ?side8 A7.out).mono ?_);(case side1=>refine(Kd.R_reads' (e:=91) (base:=w.heap.size) (ok:=fun k_=>((some k_≠(.slice Ao15 t1162.length co15:Value).ownBlock∧some k_≠(.slice Ao20 t1168.length co20:Value).ownBlock)∧some k_≠(.slice Ao21 t1171.length co21:Value).ownBlock)) (n:=t1159.length) (c:=co14) ?_).2.2;exact Z5);(case side2=>exact(Kd.R_reads' HO1161.out).2.1);(case side3=>refine(Kd.R_reads' (e:=91) (base:=w.heap.size) (ok:=fun k_=>((some k_≠(.slice Ao14 t1159.length co14:Value).ownBlock∧some k_≠(.slice Ao20 t1168.length co20:Value).ownBlock)∧some k_≠(.slice Ao21 t1171.length co21:Value).ownBlock)) (n:=t1162.length) (c:=co15) ?_).2.2;exact F4);(case side4=>exact(Kd.R_reads' HO1164.out).2.1);(case side5=>refine(Kd.R_reads' (e:=91) (base:=w.heap.size) (ok:=fun k_=>((some k_≠(.slice Ao21 t1171.length co21:Value).ownBlock∧some k_≠(.slice Ao14 t1159.length co14:Value).ownBlock)∧some k_≠(.slice Ao15 t1162.length co15:Value).ownBlock)) (n:=t1168.length) (c:=co20) ?_).2.2;exact J4);(case side6=>exact(Kd.R_reads' HO1170.out).2.1);(case side7=>refine(Kd.R_reads' (e:=91) (base:=w.heap.size) (ok:=fun k_=>((some k_≠(.slice Ao20 t1168.length co20:Value).ownBlock∧some k_≠(.slice Ao14 t1159.length co14:Value).ownBlock)∧some k_≠(.slice Ao15 t1162.length co15:Value).ownBlock)) (n:=t1171.length) (c:=co21) ?_).2.2;exact U4);(case side8=>exact(Kd.R_reads' HO1173.out).2.1);rintro e w23 ⟨rfl,hb⟩;refine⟨_,rfl,?_⟩;replace HO1161:=Aside0.mk (Kd.R_below Z5 hb);replace HO1164:=Aside0.mk (Kd.R_below F4 hb);replace HO1170:=Aside0.mk (Kd.R_below J4 hb);replace HO1173:=Aside0.mk (Kd.R_below U4 hb);replace BK1166:=Aside0.mk (blk_below (g:=gb1166) (o:=.cells #[.bool t1158,.slice Ao14 t1159.length co14,.slice Ao15 t1162.length co15] 27 (0,0)) (kfa ac (kfa ac (kfa ac (kbu BK1166.out)))) hb);replace BK1175:=Aside0.mk (blk_below (g:=gb1175) (o:=.cells #[.bool t1167,.slice Ao20 t1168.length co20,.slice Ao21 t1171.length co21] 27 (0,0)) (kpu #[.bool t1167,.slice Ao20 t1168.length co20,.slice none 0 0] 2 (kpu #[.bool t1167,.slice none 0 0,.slice none 0 0] 1 (kpu #[.bool false,.slice none 0 0,.slice none 0 0] 0 (kbu BK1175.out)))) hb);replace HB:=Aside0.mk (below_step (by repeat (first|(with_reducible first|exact HB.out|apply below_alloc|apply pw_below_drewN|apply below_drew1|refine below_set ?_ af.out|refine below_set ?_ aj.out)|exact HB.out)) hb);(try clear hb);(try clear hb2);(try clear hk);(try clear hi))|(go_at_call 16;(with_reducible refine(tribunallaw03_alive.calls 80 aa _ A10.out).mono ?_);rintro e w24 ⟨rfl,hb⟩;replace HO1161:=krb HO1161 hb;replace HO1164:=krb HO1164 hb;replace HO1170:=krb HO1170 hb;replace HO1173:=krb HO1173 hb;replace BK1166:=kbb BK1166 hb;replace BK1175:=kbb BK1175 hb;replace HB:=Aside0.mk (below_step (by repeat (first|(with_reducible first|exact HB.out|apply below_alloc|apply pw_below_drewN|apply below_drew1|refine below_set ?_ af.out|refine below_set ?_ aj.out)|exact HB.out)) hb);(try clear hb);(try clear hb2);(try clear hk);(try clear hi)))
   go_ret
   exact⟨B0,by repeat (first|(with_reducible first|exact HB.out|apply below_alloc|apply pw_below_drewN|apply below_drew1|refine below_set ?_ af.out|refine below_set ?_ aj.out)|exact HB.out)⟩
  rw[if_neg c9]at H
  exact absurd H Z1
 replace c8:=Bool.eq_false_iff.mpr c8
 subst c8
 have H1:(none)=some r:=by rw[if_neg (show ¬(false=true) by decide)]at H;exact H
 clear H
 have H:=H1
 clear H1
 exact absurd H Z1
end Go.Proofs.YtncomlmhagaajaaGreatDoor.PRp
namespace Go.Proofs.YtncomlmhagaajaaGreatDoor.Big
def val (B:Int):List Int→Int
 | []=>0
 | x::xs=>x+B*val B xs
def Dig (B:Int) (l:List Int):Prop:=∀x∈l,0≤x∧x<B
def Top:List Int→Prop
 | []=>True
 | [x]=>x≠0
 | _::y::l=>Top (y::l)
theorem Dig.nil {B:Int}:Dig B []:=fun _ h=>by cases h
theorem Dig.cons {B x:Int} {l:List Int}:Dig B (x::l)↔(0≤x∧x<B)∧Dig B l:=by
 simp[Dig]
theorem Dig.append {B:Int} {a b:List Int}:Dig B (a++b)↔Dig B a∧Dig B b:=by
 simp only[Dig,List.mem_append]
 exact⟨fun h=>⟨fun x hx=>h x (.inl hx),fun x hx=>h x (.inr hx)⟩,fun h x hx=>hx.elim (h.1 x) (h.2 x)⟩
theorem Dig.take {B:Int} {a:List Int} (h:Dig B a) (n:Nat):Dig B (a.take n):=fun x hx=>h x (List.mem_of_mem_take hx)
theorem Dig.drop {B:Int} {a:List Int} (h:Dig B a) (n:Nat):Dig B (a.drop n):=fun x hx=>h x (List.mem_of_mem_drop hx)
theorem Dig.set {B:Int} {a:List Int} (h:Dig B a) (n:Nat) {v:Int} (hv:0≤v∧v<B):Dig B (a.set n v):=fun x hx=>by
 rcases List.mem_or_eq_of_mem_set hx with hx|rfl
 ·exact h x hx
 exact hv
theorem Dig.rep {B:Int} (hB:0<B) (n:Nat):Dig B (List.replicate n 0):=fun x hx=>by
 have:=List.eq_of_mem_replicate hx;omega
theorem Dig.get {B:Int} {a:List Int} (h:Dig B a) (i:Nat) (hi:i<a.length):0≤a[i]∧a[i]<B:=h _ (List.getElem_mem hi)
theorem val_append (B:Int) (a b:List Int):val B (a++b)=val B a+B^a.length*val B b:=by
 induction a with
 | nil=>simp[val]
 | cons x a ih=>simp only[List.cons_append,val,ih,List.length_cons,Int.pow_succ];grind
theorem val_replicate (B:Int) (n:Nat):val B (List.replicate n 0)=0:=by
 induction n with
 | zero=>rfl
 | succ n ih=>simp[List.replicate_succ,val,ih]
theorem pow_pos {B:Int} (hB:0<B) (n:Nat):0<B^n:=Int.pow_pos hB
theorem val_nonneg {B:Int} (hB:0<B) {l:List Int} (h:Dig B l):0≤val B l:=by
 induction l with
 | nil=>simp[val]
 | cons x l ih=>
  rw[Dig.cons]at h
  have:=ih h.2
  have:=Int.mul_nonneg (Int.le_of_lt hB) this
  simp only[val];omega
theorem val_lt {B:Int} (hB:0<B) {l:List Int} (h:Dig B l):val B l<B^l.length:=by
 induction l with
 | nil=>simp[val]
 | cons x l ih=>
  rw[Dig.cons]at h
  have h1:=ih h.2
  have h2:B*(val B l+1)≤B*B^l.length:=Int.mul_le_mul_of_nonneg_left Z0 Z0
  simp only[val,List.length_cons,Int.pow_succ]
  grind
theorem val_set (B:Int) (l:List Int) (i:Nat) (v:Int) (hi:i<l.length):val B (l.set i v)=val B l+(v-l[i])*B^i:=by
 induction l generalizing i with
 | nil=>simp at hi
 | cons x l ih=>
  cases i with
  | zero=>simp only[List.set_cons_zero,val,List.getElem_cons_zero,Int.pow_zero];omega
  | succ i=>
   simp only[List.set_cons_succ,val,List.getElem_cons_succ,Int.pow_succ]
   rw[ih i (by simpa using hi)]
   grind
theorem val_take_succ (B:Int) (l:List Int) (i:Nat) (hi:i<l.length):val B (l.take (i+1))=val B (l.take i)+l[i]*B^i:=by
 rw[List.take_succ_eq_append_getElem hi,val_append]
 simp[val,List.length_take,Nat.min_eq_left (Nat.le_of_lt hi),Int.mul_comm]
theorem val_split (B:Int) (l:List Int) (i:Nat) (hi:i≤l.length):val B l=val B (l.take i)+B^i*val B (l.drop i):=by
 have:=val_append B (l.take i) (l.drop i)
 rw[List.take_append_drop,List.length_take,Nat.min_eq_left hi]at this
 exact this
theorem val_snoc (B:Int) (l:List Int) (x:Int):val B (l++[x])=val B l+x*B^l.length:=by
 rw[val_append];simp[val,Int.mul_comm]
theorem Top.cons {x y:Int} {l:List Int}:Top (x::y::l)↔Top (y::l):=Iff.rfl
theorem Top_iff (l:List Int):Top l↔∀h:l≠[],l.getLast h≠0:=by
 induction l with
 | nil=>simp[Top]
 | cons x l ih=>
  cases l with
  | nil=>simp[Top]
  | cons y l=>rw[Top.cons,ih];exact⟨fun h _=>by simpa using h Z1,fun h _=>by simpa using h Z1⟩
theorem Top_snoc {l:List Int} {x:Int} (h:x≠0):Top (l++[x]):=by
 rw[Top_iff];intro _;simpa using h
theorem uniq {B:Int} (hB:1<B):∀ {a b:List Int},Dig B a→Dig B b→Top a→Top b→val B a=val B b→a=b:=by
 have key:∀ {b:List Int},Dig B b→Top b→val B b=0→b=[]:=by
  intro b
  induction b with
  | nil=>intros;rfl
  | cons y b ih=>
   intro hd ht hv
   rw[Dig.cons]at hd
   simp only[val]at hv
   have h0:=val_nonneg Z0 hd.2
   have h1:=Int.mul_nonneg (show 0≤B by omega) h0
   have h2:B*val B b=0:=by omega
   have h3:val B b=0:=by rcases Int.mul_eq_zero.1 h2 with h|h<;>omega
   cases b with
   | nil=>exfalso;simp only[Top]at ht;omega
   | cons z b=>have:=ih hd.2 ht h3;cases this
 intro a
 induction a with
 | nil=>
  intro b _ hb _ tb h
  exact(key hb tb h.symm).symm
 | cons x a ih=>
  intro b ha hb ta tb h
  cases b with
  | nil=>exact key ha ta h
  | cons y b=>
   rw[Dig.cons]at ha hb
   simp only[val]at h
   have e1:x=y:=by
    have h1:(x+B*val B a)%B=x:=by rw[Int.add_mul_emod_self_left];exact Int.emod_eq_of_lt ha.1.1 ha.1.2
    have h2:(y+B*val B b)%B=y:=by rw[Int.add_mul_emod_self_left];exact Int.emod_eq_of_lt hb.1.1 hb.1.2
    rw[←h1,←h2,h]
   subst e1
   have e2:val B a=val B b:=by
    have:B*val B a=B*val B b:=by omega
    exact Int.eq_of_mul_eq_mul_left Z0 this
   have ta':Top a:=by cases a with|nil=>trivial|cons=>exact ta
   have tb':Top b:=by cases b with|nil=>trivial|cons=>exact tb
   rw[ih ha.2 hb.2 ta' tb' e2]
theorem low {B:Int} (hB:0<B) {l:List Int} (h:Dig B l) (t:Top l) (hne:l≠[]):B^(l.length-1)≤val B l:=by
 induction l with
 | nil=>exact absurd rfl hne
 | cons x l ih=>
  rw[Dig.cons]at h
  cases l with
  | nil=>simp only[Top]at t;simp[val];omega
  | cons y l=>
   have:=ih h.2 t Z1
   simp only[List.length_cons,Nat.add_sub_cancel]at this ⊢
   simp only[val]at this ⊢
   have:=Int.mul_le_mul_of_nonneg_left this (Int.le_of_lt hB)
   rw[Int.pow_succ,Int.mul_comm]
   omega
structure Rep (B:Int) (n:Int) (l:List Int):Prop where
 dig:Dig B l
 top:Top l
 val:val B l=n
theorem Rep.uniq {B n:Int} (hB:1<B) {a b:List Int} (ha:Rep B n a) (hb:Rep B n b):a=b:=
 Big.uniq hB ha.dig hb.dig ha.top hb.top (ha.val.trans hb.val.symm)
theorem Rep.nonneg {B n:Int} (hB:0<B) {a:List Int} (ha:Rep B n a):0≤n:=ha.val ▸ val_nonneg hB ha.dig
theorem Rep.lt {B n:Int} (hB:0<B) {a:List Int} (ha:Rep B n a):n<B^a.length:=ha.val ▸ val_lt hB ha.dig
theorem Rep.low {B n:Int} (hB:0<B) {a:List Int} (ha:Rep B n a) (h:a≠[]):B^(a.length-1)≤n:=ha.val ▸ Big.low hB ha.dig ha.top h
theorem Rep.nil_iff {B n:Int} (hB:0<B) {a:List Int} (ha:Rep B n a):a=[]↔n=0:=by
 constructor
 ·rintro rfl;exact ha.val.symm
 intro h
 rcases Classical.em (a=[]) with e|e
 ·exact e
 have:=ha.low hB e;have:=pow_pos hB (a.length-1);omega
end Go.Proofs.YtncomlmhagaajaaGreatDoor.Big
namespace Go.Proofs.YtncomlmhagaajaaGreatDoor.PurePRp
open Go.RowKit Go.Proofs.YtncomlmhagaajaaGreatDoorW.PrintWords Go.Proofs.YtncomlmhagaajaaGreatDoorW.PrintLast Go.Proofs.YtncomlmhagaajaaGreatDoorW.PrintMore Go.Proofs.YtncomlmhagaajaaGreatDoor.PRp Go.Proofs.YtncomlmhagaajaaGreatDoor Go.Proofs.YtncomlmhagaajaaGreatDoor.Mine
open Big
def Ev {α:Type} (f:Nat→Option α) (r:α):Prop:=∃K,∀k,K≤k→f k=some r
theorem up {α:Type} {f:Nat→Option α} (mono:∀k,LeO (f k) (f (k+1))) {k:Nat} {r:α} (h:f k=some r):∀j,k≤j→f j=some r:=by
 intro j hj
 induction hj with
 | refl=>exact h
 | step _ ih=>exact mono _ _ ih
theorem Ev.of {α:Type} {f:Nat→Option α} (mono:∀k,LeO (f k) (f (k+1))) {k:Nat} {r:α} (h:f k=some r):Ev f r:=⟨k,up mono h⟩
theorem Ev.bind {α β:Type} {f:Nat→Option α} {a:α} (h:Ev f a) {g:Nat→α→Option β} {b:β} (hg:Ev (fun k=>g k a) b):Ev (fun k=>(f k).bind (g k)) b:=by
 obtain⟨K1,h1⟩:=h
 obtain⟨K2,h2⟩:=hg
 exact⟨max K1 K2,fun k hk=>by show(f k).bind (g k)=_;rw[h1 k Z0];exact h2 k Z0⟩
theorem rd_nat (l:List Int) (n:Nat) (h:n<l.length):rd l (n:Int)=l[n]:=by
 simp[rd,List.getD_eq_getElem?_getD,List.getElem?_eq_getElem h]
theorem w64 (n:Int) (h:-9223372036854775808≤n∧n≤9223372036854775807):wrap64 n=n:=IntWalk.wrap64_in n h
theorem whole_trimmed_l0 (l:List Int) (hl:l.length<9223372036854775807):∀(n k:Nat),n≤l.length→n<k→∃m,m≤n∧whole_trimmed.l0 k l (n:Int)=some (l.take m)∧Top (l.take m)∧∀B,val B (l.take m)=val B (l.take n):=by
 intro n
 induction n with
 | zero=>
  intro k _ hk
  obtain⟨k,rfl⟩:∃j,k=j+1:=⟨k-1,Z0⟩
  refine⟨0,Nat.le_refl _,?_,by simp[Top],fun _=>rfl⟩
  simp only[whole_trimmed.l0]
  rw[if_neg Z0,if_pos Z0,if_pos Z0]
  rfl
 | succ n ih=>
  intro k hn hk
  obtain⟨k,rfl⟩:∃j,k=j+1:=⟨k-1,Z0⟩
  have hw:wrap64 (((n+1:Nat):Int)-1)=(n:Int):=by rw[w64 _ Z0];omega
  simp only[whole_trimmed.l0]
  rw[hw,if_pos Z0,if_pos Z0,if_pos Z0,rd_nat l n Z0]
  by_cases h0:l[n]=0
  ·obtain⟨m,hm,he,ht,hv⟩:=ih k Z0 Z0
   refine⟨m,Z0,by rw[if_pos h0];exact he,ht,fun B=>?_⟩
   rw[hv B,val_take_succ B l n Z0,h0];simp
  refine⟨n+1,Nat.le_refl _,?_,?_,fun _=>rfl⟩
  ·rw[if_neg h0,if_pos Z0,if_pos Z0];congr 1
  rw[List.take_succ_eq_append_getElem Z0];exact Top_snoc h0
theorem whole_trimmed_ev {B:Int} {l:List Int} (hl:l.length<9223372036854775807) (hd:Dig B l):∃r,Ev (fun k=>whole_trimmed.f k l) r∧Dig B r∧Top r∧val B r=val B l:=by
 obtain⟨m,hm,he,ht,hv⟩:=whole_trimmed_l0 l hl l.length (l.length+1) (Nat.le_refl _) Z0
 refine⟨l.take m,Ev.of (fun k=>whole_trimmed.mono l k) he,hd.take m,ht,?_⟩
 rw[hv B,List.take_length]
theorem tribunalref02_trim_l0 (l:List Int) (hl:l.length<9223372036854775807):∀(n k:Nat),n≤l.length→n<k→∃m,m≤n∧tribunalref02_trim.l0 k l (n:Int)=some (l.take m)∧Top (l.take m)∧∀B,val B (l.take m)=val B (l.take n):=by
 intro n
 induction n with
 | zero=>
  intro k _ hk
  obtain⟨k,rfl⟩:∃j,k=j+1:=⟨k-1,Z0⟩
  refine⟨0,Nat.le_refl _,?_,by simp[Top],fun _=>rfl⟩
  simp only[tribunalref02_trim.l0]
  rw[if_neg Z0,if_pos Z0,if_pos Z0]
  rfl
 | succ n ih=>
  intro k hn hk
  obtain⟨k,rfl⟩:∃j,k=j+1:=⟨k-1,Z0⟩
  have hw:wrap64 (((n+1:Nat):Int)-1)=(n:Int):=by rw[w64 _ Z0];omega
  simp only[tribunalref02_trim.l0]
  rw[hw,if_pos Z0,if_pos Z0,if_pos Z0,rd_nat l n Z0]
  by_cases h0:l[n]=0
  ·obtain⟨m,hm,he,ht,hv⟩:=ih k Z0 Z0
   refine⟨m,Z0,by rw[if_pos h0];exact he,ht,fun B=>?_⟩
   rw[hv B,val_take_succ B l n Z0,h0];simp
  refine⟨n+1,Nat.le_refl _,?_,?_,fun _=>rfl⟩
  ·rw[if_neg h0,if_pos Z0,if_pos Z0];congr 1
  rw[List.take_succ_eq_append_getElem Z0];exact Top_snoc h0
theorem tribunalref02_trim_ev {B:Int} {l:List Int} (hl:l.length<9223372036854775807) (hd:Dig B l):∃r,Ev (fun k=>tribunalref02_trim.f k l) r∧Dig B r∧Top r∧val B r=val B l:=by
 obtain⟨m,hm,he,ht,hv⟩:=tribunalref02_trim_l0 l hl l.length (l.length+1) (Nat.le_refl _) Z0
 refine⟨l.take m,Ev.of (fun k=>tribunalref02_trim.mono l k) he,hd.take m,ht,?_⟩
 rw[hv B,List.take_length]
end Go.Proofs.YtncomlmhagaajaaGreatDoor.PurePRp
namespace Go.Proofs.YtncomlmhagaajaaGreatDoor.PurePRp
open Go.RowKit Go.Proofs.YtncomlmhagaajaaGreatDoorW.PrintWords Go.Proofs.YtncomlmhagaajaaGreatDoorW.PrintLast Go.Proofs.YtncomlmhagaajaaGreatDoorW.PrintMore Go.Proofs.YtncomlmhagaajaaGreatDoor.PRp Go.Proofs.YtncomlmhagaajaaGreatDoor Go.Proofs.YtncomlmhagaajaaGreatDoor.Mine Big
theorem and32 (x:Int) (h:0≤x∧x<18446744073709551616):Go.bits .and .u64 x 4294967295=x%4294967296:=by
 obtain⟨n,rfl⟩:=Int.eq_ofNat_of_zero_le h.1
 have:=bits_and_u64_nat n 4294967295 Z0 J0
 rw[show((4294967295:Nat):Int)=4294967295 from rfl]at this
 rw[this,show(4294967295:Nat)=2^32-1 from by decide,Nat.and_two_pow_sub_one_eq_mod]
 omega
theorem mul_bound {x y M:Int} (hx:0≤x∧x≤M) (hy:0≤y∧y≤M):0≤x*y∧x*y≤M*M:=
 ⟨Int.mul_nonneg hx.1 hy.1,Int.mul_le_mul hx.2 hy.2 hy.1 Z0⟩
theorem Mul64_eq (x y:Int) (hx:0≤x∧x<18446744073709551616) (hy:0≤y∧y<18446744073709551616):bits_Mul64.f x y=some (x*y/18446744073709551616,x*y%18446744073709551616):=by
 unfold bits_Mul64.f
 rw[and32 x hx,and32 y hy]
 obtain⟨x1,hx1⟩:∃z,z=x/4294967296:=⟨_,rfl⟩
 obtain⟨x0,hx0⟩:∃z,z=x%4294967296:=⟨_,rfl⟩
 obtain⟨y1,hy1⟩:∃z,z=y/4294967296:=⟨_,rfl⟩
 obtain⟨y0,hy0⟩:∃z,z=y%4294967296:=⟨_,rfl⟩
 rw[←hx1,←hx0,←hy1,←hy0]
 have ex:x=4294967296*x1+x0:=by omega
 have ey:y=4294967296*y1+y0:=by omega
 have bx1:0≤x1∧x1≤4294967295:=by omega
 have bx0:0≤x0∧x0≤4294967295:=by omega
 have by1:0≤y1∧y1≤4294967295:=by omega
 have by0:0≤y0∧y0≤4294967295:=by omega
 have p11:=mul_bound bx1 by1
 have p10:=mul_bound bx1 by0
 have p01:=mul_bound bx0 by1
 have p00:=mul_bound bx0 by0
 have exy:x*y=18446744073709551616*(x1*y1)+4294967296*(x1*y0)+4294967296*(x0*y1)+x0*y0:=by rw[ex,ey];grind
 generalize x1*y1=a11 at *
 generalize x1*y0=a10 at *
 generalize x0*y1=a01 at *
 generalize x0*y0=a00 at *
 generalize x*y=xy at *
 clear hx1 hx0 hy1 hy0 ex ey
 have w0:IntKind.u64.wrap a00=a00:=by rw[IntKind.wrap_u64];omega
 have w1:IntKind.u64.wrap a10=a10:=by rw[IntKind.wrap_u64];omega
 have w2:IntKind.u64.wrap a01=a01:=by rw[IntKind.wrap_u64];omega
 have w3:IntKind.u64.wrap a11=a11:=by rw[IntKind.wrap_u64];omega
 rw[w0,w1,w2,w3]
 have w4:IntKind.u64.wrap (a10+a00/4294967296)=a10+a00/4294967296:=by rw[IntKind.wrap_u64];omega
 rw[w4,and32 _ Z0]
 have w5:IntKind.u64.wrap ((a10+a00/4294967296)%4294967296+a01)=(a10+a00/4294967296)%4294967296+a01:=by rw[IntKind.wrap_u64];omega
 rw[w5]
 simp only[IntKind.wrap_u64,Option.some.injEq,Prod.mk.injEq]
 refine⟨?_,trivial⟩
 obtain⟨t,ht⟩:∃t,t=a10+a00/4294967296:=⟨_,rfl⟩
 rw[←ht]
 obtain⟨q,hq⟩:∃q,q=t/4294967296:=⟨_,rfl⟩
 obtain⟨m,hm⟩:∃m,m=t%4294967296:=⟨_,rfl⟩
 rw[←hq,←hm]
 obtain⟨u,hu⟩:∃u,u=(m+a01)/4294967296:=⟨_,rfl⟩
 rw[←hu]
 have b1:0≤q∧q≤4294967295:=by omega
 have b2:0≤u∧u≤4294967295:=by omega
 have e2:xy/18446744073709551616=a11+q+u:=by
  have:xy=18446744073709551616*(a11+q+u)+(4294967296*((m+a01)%4294967296)+a00%4294967296):=by omega
  omega
 rw[e2,Int.emod_eq_of_lt Z0 Z0,Int.emod_eq_of_lt Z0 Z0]
theorem limb4 (x:Int) (h:0≤x∧x<18446744073709551616):val 65536 [IntKind.u16.wrap x,IntKind.u16.wrap (x/65536),IntKind.u16.wrap (x/4294967296),IntKind.u16.wrap (x/281474976710656)]=x∧Dig 65536 [IntKind.u16.wrap x,IntKind.u16.wrap (x/65536),IntKind.u16.wrap (x/4294967296),IntKind.u16.wrap (x/281474976710656)]:=by
 simp only[IntKind.wrap_u16,val,Dig.cons]
 refine⟨Z0,Z0,Z0,Z0,Z0,Dig.nil⟩
theorem pow4:(18446744073709551616:Int)=65536^4:=by decide
theorem of_ev (s:Bool) (l:List Int) (hl:l.length≤1048576) (hd:Dig 18446744073709551616 l) :
  ∃r,Ev (fun k=>whole_of.f k s l) (r,s&&decide (0<r.length))∧r.length≤l.length∧Dig 18446744073709551616 r∧Top r∧val 18446744073709551616 r=val 18446744073709551616 l:=by
 obtain⟨m,hm,he,ht,hv⟩:=whole_trimmed_l0 l Z0 l.length (l.length+1) (Nat.le_refl _) Z0
 obtain⟨K,hr⟩:=Ev.of (fun k=>whole_trimmed.mono l k) he
 refine⟨l.take m,⟨K,fun k hk=>?_⟩,by rw[List.length_take];omega,hd.take m,ht,by rw[hv,List.take_length]⟩
 simp only[whole_of.f,hr k hk,Option.bind_some]
 cases s
 ·simp
 simp only[whole_amount_null.f,Option.bind_some,if_true]
 congr 2
 cases h:l.take m<;>simp<;>omega
theorem or16 (x d:Int) (hx:0≤x∧x<281474976710656) (hd:0≤d∧d<65536):Go.bits .or .u64 (IntKind.u64.wrap (x*65536)) (IntKind.u64.wrap d)=x*65536+d:=by
 rw[IntKind.wrap_u64,IntKind.wrap_u64,Int.emod_eq_of_lt Z0 Z0,Int.emod_eq_of_lt Z0 Z0]
 obtain⟨n,rfl⟩:=Int.eq_ofNat_of_zero_le hx.1
 obtain⟨m,rfl⟩:=Int.eq_ofNat_of_zero_le hd.1
 have:=bits_or_u64_nat (n*65536) m Z0 Z0
 rw[show((n:Int)*65536)=((n*65536:Nat):Int) from by omega,this]
 have e:n*65536 ||| m=n*65536+m:=by
  have:=Nat.shiftLeft_add_eq_or_of_lt (i:=16) (b:=m) Z0 n
  rw[Nat.shiftLeft_eq]at this
  exact this.symm
 rw[e];omega
theorem To_step (k:Nat) (l D:List Int) (s:Bool) (i j:Nat) (x:Int) (hD:D.length≤8388608) (hd:Dig 65536 D) (hi:i≤8388608) (hj:j≤3) (hx:0≤x∧x<281474976710656) :
  tribunalref02_To.l1 (k+1) l (i:Int) x (j:Int) s D=tribunalref02_To.l1 k l (i:Int) (x*65536+D.getD (i+j) 0) ((j:Int)-1) s D:=by
 rw[tribunalref02_To.l1,if_pos Z0,w64 _ Z0,w64 _ Z0]
 by_cases h:i+j<D.length
 ·have hdj:=hd.get (i+j) h
  rw[if_pos Z0,if_pos Z0,show(i:Int)+(j:Int)=((i+j:Nat):Int) from by omega,rd_nat D (i+j) h,or16 x _ hx hdj,List.getD_eq_getElem?_getD,List.getElem?_eq_getElem h,Option.getD_some]
 rw[if_neg Z0,List.getD_eq_getElem?_getD,List.getElem?_eq_none Z0,Option.getD_none,IntKind.wrap_u64,Int.emod_eq_of_lt Z0 Z0,Int.add_zero]
theorem take4 (D:List Int) (i:Nat) (hi:i<D.length):val 65536 (D.take (i+4))=val 65536 (D.take i)+65536^i*((((0*65536+D.getD (i+3) 0)*65536+D.getD (i+2) 0)*65536+D.getD (i+1) 0)*65536+D.getD (i+0) 0):=by
 have e:D.take (i+4)=D.take i++(D.drop i).take 4:=by rw[List.take_add]
 rw[e,val_append,List.length_take,Nat.min_eq_left Z0]
 have h:val 65536 ((D.drop i).take 4)=(((0*65536+D.getD (i+3) 0)*65536+D.getD (i+2) 0)*65536+D.getD (i+1) 0)*65536+D.getD (i+0) 0:=by
  have g:∀j,D.getD (i+j) 0=(D.drop i).getD j 0:=fun j=>by simp[List.getD_eq_getElem?_getD]
  rw[g 0,g 1,g 2,g 3]
  match D.drop i with
  | []=>rfl
  | [a]=>simp[val,List.getD_eq_getElem?_getD]
  | [a,b]=>simp[val,List.getD_eq_getElem?_getD];omega
  | [a,b,c]=>simp[val,List.getD_eq_getElem?_getD];omega
  | a::b::c::d::_=>simp[val,List.getD_eq_getElem?_getD];omega
 rw[h]
theorem getD_dig {B:Int} (hB:0<B) {D:List Int} (hd:Dig B D) (j:Nat):0≤D.getD j 0∧D.getD j 0<B:=by
 by_cases h:j<D.length
 ·rw[List.getD_eq_getElem?_getD,List.getElem?_eq_getElem h];exact hd.get j h
 rw[List.getD_eq_getElem?_getD,List.getElem?_eq_none Z0];simp;exact hB
theorem To_limb (k:Nat) (l D:List Int) (s:Bool) (i:Nat) (hD:D.length≤8388608) (hl:l.length≤8388608) (hd:Dig 65536 D) (hi:i<D.length) :
  ∃x,0≤x∧x<18446744073709551616∧val 65536 (D.take (i+4))=val 65536 (D.take i)+65536^i*x∧tribunalref02_To.l1 (k+5) l (i:Int) 0 3 s D=tribunalref02_To.l0 k (l++[x]) ((i+4:Nat):Int) s D:=by
 have d0:=getD_dig J0 hd (i+0)
 have d1:=getD_dig J0 hd (i+1)
 have d2:=getD_dig J0 hd (i+2)
 have d3:=getD_dig J0 hd (i+3)
 refine⟨_,?_,?_,take4 D i hi,?_⟩
 ·omega
 ·omega
 have s3:=To_step (k+4) l D s i 3 0 hD hd Z0 Z0 Z0
 have s2:=To_step (k+3) l D s i 2 (0*65536+D.getD (i+3) 0) hD hd Z0 Z0 Z0
 have s1:=To_step (k+2) l D s i 1 ((0*65536+D.getD (i+3) 0)*65536+D.getD (i+2) 0) hD hd Z0 Z0 Z0
 have s0:=To_step (k+1) l D s i 0 (((0*65536+D.getD (i+3) 0)*65536+D.getD (i+2) 0)*65536+D.getD (i+1) 0) hD hd Z0 Z0 Z0
 rw[show((3:Nat):Int)=3 from rfl,show(3:Int)-1=2 from rfl]at s3
 rw[show((2:Nat):Int)=2 from rfl,show(2:Int)-1=1 from rfl]at s2
 rw[show((1:Nat):Int)=1 from rfl,show(1:Int)-1=0 from rfl]at s1
 rw[show((0:Nat):Int)=0 from rfl]at s0
 rw[s3,s2,s1,s0,tribunalref02_To.l1,if_neg Z0,if_pos Z0,w64 _ Z0,show((i+4:Nat):Int)=(i:Int)+4 from by omega]
theorem To_l0 (D:List Int) (s:Bool) (hD:D.length≤8388608) (hd:Dig 65536 D):∀(n i:Nat) (l:List Int),D.length≤i+n→i=4*l.length→i<D.length+4→Dig 18446744073709551616 l→val 18446744073709551616 l=val 65536 (D.take i) →
  ∃r,Ev (fun k=>tribunalref02_To.l0 k l (i:Int) s D) (s,r)∧Dig 18446744073709551616 r∧val 18446744073709551616 r=val 65536 D∧D.length≤4*r.length∧4*r.length<D.length+4:=by
 intro n
 induction n using Nat.strongRecOn with
 | ind n ih=>
  intro i l hn hi hi4 hdl hv
  by_cases h:i<D.length
  ·obtain⟨m,rfl⟩:∃m,n=m+1:=⟨n-1,Z0⟩
   have hx:=fun k=>To_limb k l D s i hD Z0 hd h
   obtain⟨x,hx0,hx1,hxv,_⟩:=hx 0
   have hxk:∀k,tribunalref02_To.l1 (k+5) l (i:Int) 0 3 s D=tribunalref02_To.l0 k (l++[x]) ((i+4:Nat):Int) s D:=fun k=>by
    obtain⟨x',h0',h1',hv',he⟩:=hx k
    have:x'=x:=by
     have e:(65536:Int)^i*x'=65536^i*x:=by omega
     exact Int.eq_of_mul_eq_mul_left (Int.ne_of_gt (pow_pos J0 i)) e
    rw[he,this]
   obtain⟨r,⟨K,hr⟩,hq⟩:=ih (m+1-4) Z0 (i+4) (l++[x]) Z0 U6 Z0 (Dig.append.2 ⟨hdl,by rw[Dig.cons];exact⟨⟨hx0,hx1⟩,Dig.nil⟩⟩)
    (by rw[val_snoc,hv,hxv,hi,pow4,Int.pow_mul,Int.mul_comm])
   refine⟨r,⟨K+6,fun k hk=>?_⟩,hq⟩
   obtain⟨k,rfl⟩:∃j,k=j+6:=⟨k-6,Z0⟩
   show tribunalref02_To.l0 (k+5+1) l (i:Int) s D=_
   rw[tribunalref02_To.l0,if_pos Z0,hxk]
   exact hr k Z0
  refine⟨l,⟨1,fun k hk=>?_⟩,hdl,by rw[hv,List.take_of_length_le Z0],Z0,Z0⟩
  obtain⟨k,rfl⟩:∃j,k=j+1:=⟨k-1,Z0⟩
  show tribunalref02_To.l0 (k+1) l (i:Int) s D=_
  rw[tribunalref02_To.l0,if_neg Z0]
theorem To_ev (D:List Int) (s:Bool) (hD:D.length≤8388608) (hd:Dig 65536 D) (ht:Top D) :
  ∃r,Ev (fun k=>tribunalref02_To.f k s D) (s,r)∧Dig 18446744073709551616 r∧Top r∧val 18446744073709551616 r=val 65536 D∧D.length≤4*r.length∧4*r.length<D.length+4:=by
 obtain⟨r,hr,h1,h2,h3,h4⟩:=To_l0 D s hD hd D.length 0 [] Z0 rfl Z0 Dig.nil rfl
 refine⟨r,hr,h1,?_,h2,h3,h4⟩
 rw[Top_iff]
 intro hne h0
 have hlen:0<r.length:=List.length_pos_iff.2 hne
 have hDne:D≠[]:=by intro e;rw[e]at h4;simp at h4;omega
 have hlow:=low (B:=65536) J0 hd ht hDne
 have e:r=r.take (r.length-1)++[0]:=by
  conv=>lhs;rw[←List.dropLast_concat_getLast hne,h0]
  rw[List.dropLast_eq_take]
 have hv:val 18446744073709551616 r=val 18446744073709551616 (r.take (r.length-1)):=by
  conv=>lhs;rw[e]
  rw[val_snoc];simp
 have hlt:=val_lt (B:=18446744073709551616) J0 (h1.take (r.length-1))
 rw[List.length_take,Nat.min_eq_left Z0,pow4,←Int.pow_mul]at hlt
 rw[pow4]at hv h2
 have hmono:(65536:Int)^(4*(r.length-1))≤65536^(D.length-1):=by
  have:4*(r.length-1)≤D.length-1:=by omega
  obtain⟨c,hc⟩:=Nat.exists_eq_add_of_le this
  rw[hc,Int.pow_add]
  have h1:=pow_pos (B:=65536) J0 (4*(r.length-1))
  have h2:=pow_pos (B:=65536) J0 c
  have:=Int.mul_le_mul_of_nonneg_left (show(1:Int)≤65536^c by omega) (Int.le_of_lt h1)
  omega
 omega
theorem Same_l0 (b c:Bool) (l:List Int) (hl:l.length≤8388608):∀(n i:Nat),i+n=l.length→∀k,n<k→tribunalref02_Same.l0 k (i:Int) b l c l=some true:=by
 intro n
 induction n with
 | zero=>
  intro i hi k hk
  obtain⟨k,rfl⟩:∃j,k=j+1:=⟨k-1,Z0⟩
  rw[tribunalref02_Same.l0,if_neg Z0]
 | succ n ih=>
  intro i hi k hk
  obtain⟨k,rfl⟩:∃j,k=j+1:=⟨k-1,Z0⟩
  have:=ih (i+1) Z0 k Z0
  rw[tribunalref02_Same.l0,if_pos Z0,if_pos Z0,if_pos Z0,if_pos rfl,w64 _ Z0,show(i:Int)+1=((i+1:Nat):Int) from by omega]
  exact this
theorem Same_ev (b:Bool) (l:List Int) (hl:l.length≤8388608):Ev (fun k=>tribunalref02_Same.f k b l b l) true:=by
 refine⟨l.length+2,fun k hk=>?_⟩
 obtain⟨k,rfl⟩:∃j,k=j+1:=⟨k-1,Z0⟩
 show tribunalref02_Same.f (k+1) b l b l=some true
 have:=Same_l0 b b l hl l.length 0 Z0 k Z0
 rw[tribunalref02_Same.f,if_neg Z1,show((l.length:Int) != (l.length:Int))=false from by simp,tribunalref02_Same.j0,if_neg Z1]
 exact this
end Go.Proofs.YtncomlmhagaajaaGreatDoor.PurePRp
namespace Go.Proofs.YtncomlmhagaajaaGreatDoor.Big
structure Num (B n:Int) (s:Bool) (l:List Int):Prop where
 rep:Rep B (n.natAbs:Int) l
 sign:s=decide (n<0)
theorem Num.uniq {B n:Int} {s t:Bool} {l m:List Int} (hB:1<B) (h:Num B n s l) (g:Num B n t m):t=s∧m=l:=
 ⟨g.sign.trans h.sign.symm,g.rep.uniq hB h.rep⟩
theorem Rep.pos_iff {B n:Int} (hB:0<B) {a:List Int} (ha:Rep B n a):0<a.length↔0<n:=by
 have h:=ha.nil_iff hB
 have h1:=ha.nonneg hB
 rw[List.length_pos_iff,Ne,h]
 omega
theorem Num.of_rep {B v:Int} (hB:0<B) {l:List Int} (h:Rep B v l) (b:Bool):Num B (if b then -v else v) (b&&decide (0<l.length)) l:=by
 have h1:=h.nonneg hB
 have h2:=h.pos_iff hB
 refine⟨?_,?_⟩
 ·have e:(((if b then -v else v):Int).natAbs:Int)=v:=by cases b<;>simp<;>omega
  rw[e];exact h
 cases b
 ·simp;omega
 simp only[Bool.true_and,if_true]
 by_cases h3:0<l.length
 ·have:=h2.1 h3;simp[h3];omega
 have:¬0<v:=fun g=>h3 (h2.2 g)
 simp[h3];omega
theorem Num.of_rep' {B v:Int} (hB:0<B) {l:List Int} (h:Rep B v l) (b:Bool) {n:Int} (hn:n=if b then -v else v):Num B n (b&&decide (0<l.length)) l:=hn ▸ Num.of_rep hB h b
def sg (n:Int):Int:=if n<0 then -1 else if n=0 then 0 else 1
theorem sg_neg {n:Int} (h:n<0):sg n = -1:=by unfold sg;rw[if_pos h]
theorem sg_zero {n:Int} (h:n=0):sg n=0:=by unfold sg;rw[if_neg Z0,if_pos h]
theorem sg_pos {n:Int} (h:0<n):sg n=1:=by unfold sg;rw[if_neg Z0,if_neg Z0]
theorem lt_of_len {B:Int} (hB:0<B) {a b:List Int} (da:Dig B a) (db:Dig B b) (tb:Top b) (h:a.length<b.length):val B a<val B b:=by
 have h1:=val_lt hB da
 have hne:b≠[]:=by intro e;rw[e]at h;simp at h
 have h2:=low hB db tb hne
 have h4:B^a.length≤B^(b.length-1):=by
  obtain⟨c,hc⟩:=Nat.exists_eq_add_of_le (show a.length≤b.length-1 by omega)
  rw[hc,Int.pow_add]
  have g1:=pow_pos hB a.length
  have g2:=pow_pos hB c
  have:=Int.mul_le_mul_of_nonneg_left (show(1:Int)≤B^c by omega) (Int.le_of_lt g1)
  omega
 omega
theorem lt_of_top {B:Int} (hB:0<B) {a b:List Int} (da:Dig B a) (db:Dig B b) (n:Nat) (ha:n<a.length) (hb:n<b.length) (h:a[n]<b[n]):val B (a.take (n+1))<val B (b.take (n+1)):=by
 rw[val_take_succ B a n ha,val_take_succ B b n hb]
 have h1:=val_lt hB (da.take n)
 rw[List.length_take,Nat.min_eq_left Z0]at h1
 have h2:=val_nonneg hB (db.take n)
 have h3:=Int.mul_le_mul_of_nonneg_right (show a[n]+1≤b[n] by omega) (Int.le_of_lt (pow_pos hB n))
 rw[Int.add_mul,Int.one_mul]at h3
 omega
theorem add_step (V c c' s x y X Y P B:Int) (hs:c'*B+s=x+y+c) (hv:V+c*P=X+Y):(V+s*P)+c'*(P*B)=(X+x*P)+(Y+y*P):=by
 have h1:c'*(P*B)+s*P=(c'*B+s)*P:=by rw[Int.add_mul,Int.mul_assoc,Int.mul_comm P B]
 rw[hs,Int.add_mul,Int.add_mul]at h1
 omega
theorem sub_step (V c c' s x y X Y P B:Int) (hs:s-c'*B=x-y-c) (hv:V-c*P=X-Y):(V+s*P)-c'*(P*B)=(X+x*P)-(Y+y*P):=by
 have h1:s*P-c'*(P*B)=(s-c'*B)*P:=by rw[Int.sub_mul,Int.mul_assoc,Int.mul_comm P B]
 rw[hs,Int.sub_mul,Int.sub_mul]at h1
 omega
theorem val_take_getD (B:Int) (l:List Int) (i:Nat):val B (l.take (i+1))=val B (l.take i)+l.getD i 0*B^i:=by
 by_cases h:i<l.length
 ·rw[val_take_succ B l i h,List.getD_eq_getElem?_getD,List.getElem?_eq_getElem h,Option.getD_some]
 rw[List.take_of_length_le Z0,List.take_of_length_le Z0,List.getD_eq_getElem?_getD,List.getElem?_eq_none Z0,Option.getD_none,Int.zero_mul,Int.add_zero]
end Go.Proofs.YtncomlmhagaajaaGreatDoor.Big
namespace Go.Proofs.YtncomlmhagaajaaGreatDoor.PurePRp
open Go.RowKit Go.Proofs.YtncomlmhagaajaaGreatDoorW.PrintWords Go.Proofs.YtncomlmhagaajaaGreatDoorW.PrintLast Go.Proofs.YtncomlmhagaajaaGreatDoorW.PrintMore Go.Proofs.YtncomlmhagaajaaGreatDoor.PRp Go.Proofs.YtncomlmhagaajaaGreatDoor Go.Proofs.YtncomlmhagaajaaGreatDoor.Mine Big
theorem pow_le_pow {B:Int} (hB:0<B) {m n:Nat} (h:m≤n):B^m≤B^n:=by
 obtain⟨c,rfl⟩:=Nat.exists_eq_add_of_le h
 rw[Int.pow_add]
 have g1:=pow_pos hB m
 have g2:=pow_pos hB c
 have:=Int.mul_le_mul_of_nonneg_left (show(1:Int)≤B^c by omega) (Int.le_of_lt g1)
 omega
theorem rep_len {B v:Int} (hB:0<B) {r:List Int} (h:Rep B v r) {m:Nat} (hv:v<B^m):r.length≤m:=by
 refine Classical.byContradiction fun hc=>?_
 have hne:r≠[]:=by intro e;rw[e]at hc;simp at hc
 have h1:=h.low hB hne
 have h2:=pow_le_pow hB (show m≤r.length-1 by omega)
 omega
theorem signed_eq (m:List Int) (b:Bool):whole_signed.f m b=some (m,b&&decide (0<m.length)):=by
 cases b
 ·simp[whole_signed.f]
 simp only[whole_signed.f,whole_amount_null.f,Option.bind_some,if_true]
 congr 2
 cases m<;>simp<;>omega
theorem whole_amount_cmp_l0 (a b:List Int) (hl:a.length≤8388608) (hab:a.length=b.length) (da:Dig 18446744073709551616 a) (db:Dig 18446744073709551616 b):∀(n k:Nat) (i:Int),n≤a.length→n<k→i=(n:Int)-1→whole_amount_cmp.l0 k a b i=some (sg (val 18446744073709551616 (a.take n)-val 18446744073709551616 (b.take n))):=by
 intro n
 induction n with
 | zero=>
  intro k i _ hk hi
  obtain⟨k,rfl⟩:∃j,k=j+1:=⟨k-1,Z0⟩
  rw[whole_amount_cmp.l0,if_neg Z0,sg_zero Z1]
 | succ n ih=>
  intro k i hn hk hi
  obtain⟨k,rfl⟩:∃j,k=j+1:=⟨k-1,Z0⟩
  have hi':i=(n:Int):=by omega
  subst hi'
  have hna:n<a.length:=by omega
  have hnb:n<b.length:=by omega
  rw[whole_amount_cmp.l0,if_pos Z0,if_pos Z0,if_pos Z0,if_pos Z0,rd_nat a n hna,rd_nat b n hnb]
  rcases Int.lt_trichotomy a[n] b[n] with h|h|h
  ·have:=lt_of_top J0 da db n hna hnb h
   rw[if_neg Z0,if_pos h]
   rw[sg_neg Z0]
  ·rw[if_pos h]
   rw[w64 _ Z0,ih k _ Z0 Z0 rfl,val_take_succ 18446744073709551616 a n hna,val_take_succ 18446744073709551616 b n hnb,h]
   congr 2
   omega
  have:=lt_of_top J0 db da n hnb hna h
  rw[if_neg Z0,if_neg Z0]
  rw[sg_pos Z0]
theorem whole_amount_cmp_ev (a b:List Int) (ha:a.length≤8388608) (hb:b.length≤8388608) (da:Dig 18446744073709551616 a) (db:Dig 18446744073709551616 b) (ta:Top a) (tb:Top b):Ev (fun k=>whole_amount_cmp.f k a b) (sg (val 18446744073709551616 a-val 18446744073709551616 b)):=by
 refine⟨a.length+1,fun k hk=>?_⟩
 show whole_amount_cmp.f k a b=_
 rw[whole_amount_cmp.f]
 rcases Nat.lt_trichotomy a.length b.length with h|h|h
 ·have:=lt_of_len J0 da db tb h
  rw[if_neg Z0,if_pos Z0,sg_neg Z0]
 ·rw[if_pos Z0,w64 _ Z0,whole_amount_cmp_l0 a b ha h da db a.length k _ (Nat.le_refl _) Z0 rfl,List.take_length,h,List.take_length]
 have:=lt_of_len J0 db da ta h
 rw[if_neg Z0,if_neg Z0,sg_pos Z0]
theorem tribunalref02_cmpD_l0 (a b:List Int) (hl:a.length≤8388608) (hab:a.length=b.length) (da:Dig 65536 a) (db:Dig 65536 b):∀(n k:Nat) (i:Int),n≤a.length→n<k→i=(n:Int)-1→tribunalref02_cmpD.l0 k a b i=some (sg (val 65536 (a.take n)-val 65536 (b.take n))):=by
 intro n
 induction n with
 | zero=>
  intro k i _ hk hi
  obtain⟨k,rfl⟩:∃j,k=j+1:=⟨k-1,Z0⟩
  rw[tribunalref02_cmpD.l0,if_neg Z0,sg_zero Z1]
 | succ n ih=>
  intro k i hn hk hi
  obtain⟨k,rfl⟩:∃j,k=j+1:=⟨k-1,Z0⟩
  have hi':i=(n:Int):=by omega
  subst hi'
  have hna:n<a.length:=by omega
  have hnb:n<b.length:=by omega
  rw[tribunalref02_cmpD.l0,if_pos Z0,if_pos Z0,if_pos Z0,if_pos Z0,rd_nat a n hna,rd_nat b n hnb]
  rcases Int.lt_trichotomy a[n] b[n] with h|h|h
  ·have:=lt_of_top J0 da db n hna hnb h
   rw[if_pos h]
   rw[sg_neg Z0]
  ·rw[if_neg Z0,if_neg Z0]
   rw[w64 _ Z0,ih k _ Z0 Z0 rfl,val_take_succ 65536 a n hna,val_take_succ 65536 b n hnb,h]
   congr 2
   omega
  have:=lt_of_top J0 db da n hnb hna h
  rw[if_neg Z0,if_pos h]
  rw[sg_pos Z0]
theorem tribunalref02_cmpD_ev (a b:List Int) (ha:a.length≤8388608) (hb:b.length≤8388608) (da:Dig 65536 a) (db:Dig 65536 b) (ta:Top a) (tb:Top b):Ev (fun k=>tribunalref02_cmpD.f k a b) (sg (val 65536 a-val 65536 b)):=by
 refine⟨a.length+1,fun k hk=>?_⟩
 show tribunalref02_cmpD.f k a b=_
 rw[tribunalref02_cmpD.f]
 rcases Nat.lt_trichotomy a.length b.length with h|h|h
 ·have:=lt_of_len J0 da db tb h
  rw[if_neg Z0,if_pos Z0,sg_neg Z0]
 ·rw[if_pos Z0,w64 _ Z0,tribunalref02_cmpD_l0 a b ha h da db a.length k _ (Nat.le_refl _) Z0 rfl,List.take_length,h,List.take_length]
 have:=lt_of_len J0 db da ta h
 rw[if_neg Z0,if_neg Z0,sg_pos Z0]
theorem rd_getD (l:List Int) (n:Nat):rd l (n:Int)=l.getD n 0:=by simp[rd]
theorem getD_ge (l:List Int) (n:Nat) (h:l.length≤n):l.getD n 0=0:=by
 rw[List.getD_eq_getElem?_getD,List.getElem?_eq_none h,Option.getD_none]
theorem Add64_eq (x y c:Int) (hx:0≤x) (hy:0≤y) (hc:0≤c∧c≤1):bits_Add64.f x y c=some ((x+y+c)%18446744073709551616,(x+y+c)/18446744073709551616):=by
 rw[bits_Add64.f,if_pos ⟨hx,hy,hc.1,hc.2⟩]
theorem Sub64_eq (x y c:Int) (hx:0≤x) (hy:0≤y∧y<18446744073709551616) (hc:0≤c∧c≤1):bits_Sub64.f x y c=some ((x-y-c)%18446744073709551616,if x<y+c then 1 else 0):=by
 rw[bits_Sub64.f,if_pos ⟨hx,hy.1,hy.2,hc.1,hc.2⟩]
theorem plus_step (k:Nat) (a b out:List Int) (c:Int) (i:Nat) (hi:i<a.length) (hl:a.length≤8388608) (ho:out.length=i) (da:Dig 18446744073709551616 a) (db:Dig 18446744073709551616 b) (hc:0≤c∧c≤1) :
  whole_amount_plus.l0 (k+1) a b out c (a.length:Int) (i:Int)=whole_amount_plus.l0 k a b (out++[(a.getD i 0+b.getD i 0+c)%18446744073709551616]) ((a.getD i 0+b.getD i 0+c)/18446744073709551616) (a.length:Int) ((i+1:Nat):Int):=by
 have ga:=getD_dig J0 da i
 have gb:=getD_dig J0 db i
 rw[whole_amount_plus.l0,if_pos Z0,rd_getD,rd_getD,show wrap64 ((i:Int)+1)=((i+1:Nat):Int) from by rw[w64 _ Z0];omega]
 by_cases h:(i:Int)<(b.length:Int)
 ·rw[if_pos h,if_pos Z0,if_pos Z0,Add64_eq _ _ _ ga.1 gb.1 hc,Option.bind_some,if_pos Z0]
 rw[if_neg h,if_pos Z0,if_pos Z0,Add64_eq _ _ _ ga.1 J0 hc,Option.bind_some,if_pos Z0,getD_ge b i Z0]
theorem plus_l0 (a b:List Int) (hl:a.length≤8388608) (hb:b.length≤a.length) (da:Dig 18446744073709551616 a) (db:Dig 18446744073709551616 b):∀(n i:Nat) (out:List Int) (c:Int),i+n=a.length→out.length=i→Dig 18446744073709551616 out→0≤c∧c≤1→val 18446744073709551616 out+c*18446744073709551616^i=val 18446744073709551616 (a.take i)+val 18446744073709551616 (b.take i) →
  ∃r,Ev (fun k=>whole_amount_plus.l0 k a b out c (a.length:Int) (i:Int)) r∧Rep 18446744073709551616 (val 18446744073709551616 a+val 18446744073709551616 b) r:=by
 intro n
 induction n with
 | zero=>
  intro i out c hi ho hd hc hv
  obtain⟨r,⟨K,hr⟩,h1,h2,h3⟩:=whole_trimmed_ev (B:=18446744073709551616) (l:=out++[c]) U6 (Dig.append.2 ⟨hd,by rw[Dig.cons];exact⟨⟨hc.1,Z0⟩,Dig.nil⟩⟩)
  refine⟨r,⟨K+1,fun k hk=>?_⟩,h1,h2,?_⟩
  ·obtain⟨k,rfl⟩:∃j,k=j+1:=⟨k-1,Z0⟩
   have hk':whole_trimmed.f k (out++[c])=some r:=hr k Z0
   show whole_amount_plus.l0 (k+1) a b out c (a.length:Int) (i:Int)=some r
   rw[whole_amount_plus.l0,if_neg Z0,if_pos Z0,hk',Option.bind_some]
  rw[h3,val_snoc,ho,hv,List.take_of_length_le Z0,List.take_of_length_le Z0]
 | succ n ih=>
  intro i out c hi ho hd hc hv
  have hil:i<a.length:=by omega
  have ga:=getD_dig J0 da i
  have gb:=getD_dig J0 db i
  obtain⟨r,⟨K,hr⟩,hq⟩:=ih (i+1) (out++[(a.getD i 0+b.getD i 0+c)%18446744073709551616]) ((a.getD i 0+b.getD i 0+c)/18446744073709551616) Z0 U6
   (Dig.append.2 ⟨hd,J6⟩) Z0
   Y8
  refine⟨r,⟨K+1,fun k hk=>?_⟩,hq⟩
  obtain⟨k,rfl⟩:∃j,k=j+1:=⟨k-1,Z0⟩
  show whole_amount_plus.l0 (k+1) a b out c (a.length:Int) (i:Int)=some r
  rw[plus_step k a b out c i hil hl ho da db hc]
  exact hr k Z0
theorem plus_j0 (a b:List Int) (hl:a.length≤8388600) (hb:b.length≤a.length) (da:Dig 18446744073709551616 a) (db:Dig 18446744073709551616 b) :
  ∃r,Ev (fun k=>whole_amount_plus.j0 k a b) r∧Rep 18446744073709551616 (val 18446744073709551616 a+val 18446744073709551616 b) r:=by
 obtain⟨r,⟨K,hr⟩,hq⟩:=plus_l0 a b Z0 hb da db a.length 0 [] 0 Z0 rfl Dig.nil Z0 Ya
 refine⟨r,⟨K+1,fun k hk=>?_⟩,hq⟩
 obtain⟨k,rfl⟩:∃j,k=j+1:=⟨k-1,Z0⟩
 show whole_amount_plus.j0 (k+1) a b=some r
 have hw:wrap64 ((a.length:Int)+1)=((a.length+1:Nat):Int):=by rw[w64 _ Z0];omega
 rw[whole_amount_plus.j0,hw,if_pos Z0,Int.toNat_natCast,if_pos Z0]
 exact hr k Z0
theorem plus_ev (a b:List Int) (ha:a.length≤8388600) (hb:b.length≤8388600) (da:Dig 18446744073709551616 a) (db:Dig 18446744073709551616 b) :
  ∃r,Ev (fun k=>whole_amount_plus.f k a b) r∧Rep 18446744073709551616 (val 18446744073709551616 a+val 18446744073709551616 b) r:=by
 by_cases h:a.length<b.length
 ·obtain⟨r,⟨K,hr⟩,hq⟩:=plus_j0 b a hb Z0 db da
  refine⟨r,⟨K,fun k hk=>?_⟩,by rw[Int.add_comm];exact hq⟩
  show whole_amount_plus.f k a b=some r
  rw[whole_amount_plus.f,if_pos Z0]
  exact hr k hk
 obtain⟨r,⟨K,hr⟩,hq⟩:=plus_j0 a b ha Z0 da db
 refine⟨r,⟨K,fun k hk=>?_⟩,hq⟩
 show whole_amount_plus.f k a b=some r
 rw[whole_amount_plus.f,if_neg Z0]
 exact hr k hk
theorem num_len {B n m u:Int} (hB:2≤B) {s t x:Bool} {a b r:List Int} (ha:Num B n s a) (hb:Num B m t b) (hr:Num B u x r) (hu:(u.natAbs:Int)≤n.natAbs+m.natAbs) {L:Nat} (la:a.length≤L) (lb:b.length≤L):r.length≤L+1:=by
 refine rep_len Z0 hr.rep ?_
 have h1:=ha.rep.lt Z0
 have h2:=hb.rep.lt Z0
 have h3:=pow_le_pow (B:=B) Z0 la
 have h4:=pow_le_pow (B:=B) Z0 lb
 rw[Int.pow_succ]
 have h5:=pow_pos (B:=B) Z0 L
 have h6:=Int.mul_le_mul_of_nonneg_left hB (Int.le_of_lt h5)
 omega
theorem cmp_num {n m:Int} {s t:Bool} {a b:List Int} (ha:Num 18446744073709551616 n s a) (hb:Num 18446744073709551616 m t b) (la:a.length≤8388608) (lb:b.length≤8388608):Ev (fun k=>whole_number_cmp.f k a s b t) (sg (n-m)):=by
 obtain⟨K1,h1⟩:=whole_amount_cmp_ev a b la lb ha.rep.dig hb.rep.dig ha.rep.top hb.rep.top
 obtain⟨K2,h2⟩:=whole_amount_cmp_ev b a lb la hb.rep.dig ha.rep.dig hb.rep.top ha.rep.top
 rw[ha.rep.val,hb.rep.val]at h1 h2
 refine⟨max K1 K2+2,fun k hk=>?_⟩
 obtain⟨k,rfl⟩:∃j,k=j+2:=⟨k-2,Z0⟩
 have g1:whole_amount_cmp.f k a b=_:=h1 k Z0
 have g2:whole_amount_cmp.f k b a=_:=h2 k Z0
 have e1:=ha.sign
 have e2:=hb.sign
 show whole_number_cmp.f (k+1+1) a s b t=_
 rw[whole_number_cmp.f]
 cases s with
 | true=>
  have hn:n<0:=of_decide_eq_true e1.symm
  cases t with
  | true=>
   have hm:m<0:=of_decide_eq_true e2.symm
   rw[if_pos rfl,whole_number_cmp.j0,if_neg J0,if_pos rfl,whole_number_cmp.j1,if_neg J0,if_pos rfl,g2,Option.bind_some]
   congr 2;omega
  | false=>
   have hm:¬m<0:=of_decide_eq_false e2.symm
   rw[if_pos rfl,whole_number_cmp.j0,if_pos J0,sg_neg Z0]
 | false=>
  have hn:¬n<0:=of_decide_eq_false e1.symm
  cases t with
  | true=>
   have hm:m<0:=of_decide_eq_true e2.symm
   rw[if_neg J0,whole_number_cmp.j0,if_neg J0,if_neg J0,whole_number_cmp.j1,if_pos rfl,sg_pos Z0]
  | false=>
   have hm:¬m<0:=of_decide_eq_false e2.symm
   rw[if_neg J0,whole_number_cmp.j0,if_neg J0,if_neg J0,whole_number_cmp.j1,if_neg J0,if_neg J0,g1,Option.bind_some]
   congr 2;omega
theorem sg_ge {n:Int}:sg n≥0↔0≤n:=by unfold sg;split<;>(try split)<;>omega
theorem len_of_le {B:Int} (hB:0<B) {a b:List Int} (da:Dig B a) (db:Dig B b) (tb:Top b) (h:val B b≤val B a):b.length≤a.length:=by
 refine Classical.byContradiction fun hc=>?_
 have:=lt_of_len hB da db tb Z0
 omega
theorem minus_step (k:Nat) (a b out:List Int) (c:Int) (i:Nat) (hi:i<a.length) (hl:a.length≤8388608) (ho:out.length=i) (da:Dig 18446744073709551616 a) (db:Dig 18446744073709551616 b) (hc:0≤c∧c≤1) :
  whole_amount_minus.l0 (k+1) a b out c (a.length:Int) (i:Int)=whole_amount_minus.l0 k a b (out++[(a.getD i 0-b.getD i 0-c)%18446744073709551616]) (if a.getD i 0<b.getD i 0+c then 1 else 0) (a.length:Int) ((i+1:Nat):Int):=by
 have ga:=getD_dig J0 da i
 have gb:=getD_dig J0 db i
 rw[whole_amount_minus.l0,if_pos Z0,rd_getD,rd_getD,show wrap64 ((i:Int)+1)=((i+1:Nat):Int) from by rw[w64 _ Z0];omega]
 by_cases h:(i:Int)<(b.length:Int)
 ·rw[if_pos h,if_pos Z0,if_pos Z0,Sub64_eq _ _ _ ga.1 gb hc,Option.bind_some,if_pos Z0]
 rw[if_neg h,if_pos Z0,if_pos Z0,Sub64_eq _ _ _ ga.1 J0 hc,Option.bind_some,if_pos Z0,getD_ge b i Z0]
theorem borrow_none {V c P X Y:Int} (hV:0≤V∧V<P) (hc:0≤c∧c≤1) (hle:Y≤X) (h:V-c*P=X-Y):V=X-Y:=by
 have:c=0∨c=1:=by omega
 rcases this with h1|h1
 ·rw[h1]at h;omega
 rw[h1]at h;omega
theorem minus_l0 (a b:List Int) (hl:a.length≤8388608) (hb:b.length≤a.length) (hle:val 18446744073709551616 b≤val 18446744073709551616 a) (da:Dig 18446744073709551616 a) (db:Dig 18446744073709551616 b):∀(n i:Nat) (out:List Int) (c:Int),i+n=a.length→out.length=i→Dig 18446744073709551616 out→0≤c∧c≤1→val 18446744073709551616 out-c*18446744073709551616^i=val 18446744073709551616 (a.take i)-val 18446744073709551616 (b.take i) →
  ∃r,Ev (fun k=>whole_amount_minus.l0 k a b out c (a.length:Int) (i:Int)) r∧Rep 18446744073709551616 (val 18446744073709551616 a-val 18446744073709551616 b) r:=by
 intro n
 induction n with
 | zero=>
  intro i out c hi ho hd hc hv
  obtain⟨r,⟨K,hr⟩,h1,h2,h3⟩:=whole_trimmed_ev (B:=18446744073709551616) (l:=out) Z0 hd
  refine⟨r,⟨K+1,fun k hk=>?_⟩,h1,h2,?_⟩
  ·obtain⟨k,rfl⟩:∃j,k=j+1:=⟨k-1,Z0⟩
   have hk':whole_trimmed.f k out=some r:=hr k Z0
   show whole_amount_minus.l0 (k+1) a b out c (a.length:Int) (i:Int)=some r
   rw[whole_amount_minus.l0,if_neg Z0,hk',Option.bind_some]
  rw[h3]
  rw[List.take_of_length_le Z0,List.take_of_length_le Z0]at hv
  have g1:=val_lt (B:=18446744073709551616) J0 hd
  have g2:=val_nonneg (B:=18446744073709551616) J0 hd
  rw[ho]at g1
  exact borrow_none ⟨g2,g1⟩ hc hle hv
 | succ n ih=>
  intro i out c hi ho hd hc hv
  have hil:i<a.length:=by omega
  have ga:=getD_dig J0 da i
  have gb:=getD_dig J0 db i
  obtain⟨r,⟨K,hr⟩,hq⟩:=ih (i+1) (out++[(a.getD i 0-b.getD i 0-c)%18446744073709551616]) (if a.getD i 0<b.getD i 0+c then 1 else 0) Z0 U6
   (Dig.append.2 ⟨hd,J6⟩) Y9
   D7
  refine⟨r,⟨K+1,fun k hk=>?_⟩,hq⟩
  obtain⟨k,rfl⟩:∃j,k=j+1:=⟨k-1,Z0⟩
  show whole_amount_minus.l0 (k+1) a b out c (a.length:Int) (i:Int)=some r
  rw[minus_step k a b out c i hil hl ho da db hc]
  exact hr k Z0
theorem minus_ev (a b:List Int) (ha:a.length≤8388608) (hb:b.length≤a.length) (hle:val 18446744073709551616 b≤val 18446744073709551616 a) (da:Dig 18446744073709551616 a) (db:Dig 18446744073709551616 b) :
  ∃r,Ev (fun k=>whole_amount_minus.f k a b) r∧Rep 18446744073709551616 (val 18446744073709551616 a-val 18446744073709551616 b) r:=by
 obtain⟨r,⟨K,hr⟩,hq⟩:=minus_l0 a b ha hb hle da db a.length 0 [] 0 Z0 rfl Dig.nil Z0 Ya
 refine⟨r,⟨K,fun k hk=>?_⟩,hq⟩
 show whole_amount_minus.f k a b=some r
 rw[whole_amount_minus.f,if_pos Z0,Int.toNat_natCast,if_pos Z0]
 exact hr k hk
theorem plus_num {n m:Int} {s t:Bool} {a b:List Int} (ha:Num 18446744073709551616 n s a) (hb:Num 18446744073709551616 m t b) (la:a.length≤8388600) (lb:b.length≤8388600) :
  ∃u r,Ev (fun k=>whole_number_plus.f k a s b t) (r,u)∧Num 18446744073709551616 (n+m) u r:=by
 have e1:=ha.sign
 have e2:=hb.sign
 by_cases hst:s=t
 ·obtain⟨r,⟨K,hr⟩,hR⟩:=plus_ev a b la lb ha.rep.dig hb.rep.dig
  rw[ha.rep.val,hb.rep.val]at hR
  refine⟨_,r,⟨K,fun k hk=>?_⟩,Num.of_rep' J0 hR s (by subst hst;cases s<;>simp at e1 e2 ⊢<;>omega)⟩
  have g:whole_amount_plus.f k a b=some r:=hr k hk
  show whole_number_plus.f k a s b t=_
  rw[whole_number_plus.f,if_pos (by rw[hst];exact beq_self_eq_true t),g,Option.bind_some,signed_eq,Option.bind_some]
 obtain⟨K1,h1⟩:=whole_amount_cmp_ev a b Z0 Z0 ha.rep.dig hb.rep.dig ha.rep.top hb.rep.top
 have hne:¬(s==t)=true:=by intro h;exact hst (eq_of_beq h)
 by_cases hle:val 18446744073709551616 b≤val 18446744073709551616 a
 ·obtain⟨r,⟨K,hr⟩,hR⟩:=minus_ev a b Z0 (len_of_le J0 ha.rep.dig hb.rep.dig hb.rep.top hle) hle ha.rep.dig hb.rep.dig
  have hle':=hle
  rw[ha.rep.val,hb.rep.val]at hR hle'
  refine⟨_,r,⟨max K K1,fun k hk=>?_⟩,Num.of_rep' J0 hR s (by cases s<;>cases t<;>simp at hst e1 e2 ⊢<;>omega)⟩
  have g:whole_amount_minus.f k a b=some r:=hr k Z0
  have g1:whole_amount_cmp.f k a b=_:=h1 k Z0
  show whole_number_plus.f k a s b t=_
  rw[whole_number_plus.f,if_neg hne,g1,Option.bind_some,if_pos (sg_ge.2 Z0),g,Option.bind_some,signed_eq,Option.bind_some]
 have aa:val 18446744073709551616 a≤val 18446744073709551616 b:=by omega
 obtain⟨r,⟨K,hr⟩,hR⟩:=minus_ev b a Z0 (len_of_le J0 hb.rep.dig ha.rep.dig ha.rep.top aa) aa hb.rep.dig ha.rep.dig
 have hle':=aa
 rw[ha.rep.val,hb.rep.val]at hR hle'
 refine⟨_,r,⟨max K K1,fun k hk=>?_⟩,Num.of_rep' J0 hR t (by cases s<;>cases t<;>simp at hst e1 e2 ⊢<;>omega)⟩
 have g:whole_amount_minus.f k b a=some r:=hr k Z0
 have g1:whole_amount_cmp.f k a b=_:=h1 k Z0
 show whole_number_plus.f k a s b t=_
 rw[whole_number_plus.f,if_neg hne,g1,Option.bind_some,if_neg (fun x=>hle (by have:=sg_ge.1 x;omega)),g,Option.bind_some,signed_eq,Option.bind_some]
theorem opposite_num {n:Int} {s:Bool} {a:List Int} (ha:Num 18446744073709551616 n s a):∃u,whole_number_opposite.f a s=some (a,u)∧Num 18446744073709551616 (-n) u a:=by
 have e1:=ha.sign
 refine⟨_,?_,Num.of_rep' J0 ha.rep (!s) (by cases s<;>simp at e1 ⊢<;>omega)⟩
 rw[whole_number_opposite.f,signed_eq,Option.bind_some]
theorem addD_step (k:Nat) (a b out:List Int) (c:Int) (i:Nat) (hi:i<a.length∨i<b.length∨0<c) (ha:a.length≤8388608) (hb:b.length≤8388608) (hi2:i≤8388608) (ho:out.length=i) (da:Dig 65536 a) (db:Dig 65536 b) (hc:0≤c∧c≤1) :
  tribunalref02_addD.l0 (k+2) a b out c (i:Int)=tribunalref02_addD.l0 k a b (out++[(a.getD i 0+b.getD i 0+c)%65536]) ((a.getD i 0+b.getD i 0+c)/65536) ((i+1:Nat):Int):=by
 have ga:=getD_dig J0 da i
 have gb:=getD_dig J0 db i
 have hw:wrap64 ((i:Int)+1)=((i+1:Nat):Int):=by rw[w64 _ Z0];omega
 have e1:tribunalref02_addD.l0 (k+1+1) a b out c (i:Int)=tribunalref02_addD.j1 (k+1) a b out c (i:Int) true:=by
  rw[tribunalref02_addD.l0]
  by_cases h1:(i:Int)<(a.length:Int)
  ·rw[if_pos h1]
  by_cases h2:(i:Int)<(b.length:Int)
  ·rw[if_neg h1,if_pos h2]
  rw[if_neg h1,if_neg h2,show decide (c>0)=true from by simp;omega]
 show tribunalref02_addD.l0 (k+1+1) a b out c (i:Int)=_
 rw[e1,tribunalref02_addD.j1,if_pos rfl,rd_getD,rd_getD,hw]
 by_cases h1:(i:Int)<(a.length:Int)
 ·by_cases h2:(i:Int)<(b.length:Int)
  ·have e:(c+a.getD i 0+b.getD i 0)%4294967296=a.getD i 0+b.getD i 0+c:=by omega
   rw[if_pos h1,if_pos Z0,if_pos h2,if_pos Z0,e,IntKind.wrap_u16]
  have e:(c+a.getD i 0)%4294967296=a.getD i 0+b.getD i 0+c:=by have:=getD_ge b i Z0;omega
  rw[if_pos h1,if_pos Z0,if_neg h2,if_pos Z0,e,IntKind.wrap_u16]
 by_cases h2:(i:Int)<(b.length:Int)
 ·have e:(c+b.getD i 0)%4294967296=a.getD i 0+b.getD i 0+c:=by have:=getD_ge a i Z0;omega
  rw[if_neg h1,if_pos h2,if_pos Z0,if_pos Z0,e,IntKind.wrap_u16]
 have e:a.getD i 0+b.getD i 0+c=c:=by have:=getD_ge a i Z0;have:=getD_ge b i Z0;omega
 rw[if_neg h1,if_neg h2,if_pos Z0,e,IntKind.wrap_u16]
theorem addD_end (k:Nat) (a b out:List Int) (c:Int) (i:Nat) (h1:¬i<a.length) (h2:¬i<b.length) (h3:¬0<c):tribunalref02_addD.l0 (k+2) a b out c (i:Int)=some out:=by
 show tribunalref02_addD.l0 (k+1+1) a b out c (i:Int)=_
 rw[tribunalref02_addD.l0,if_neg Z0,if_neg Z0,show decide (c>0)=false from by simp;omega,tribunalref02_addD.j1,if_neg J0]
theorem addD_l0 (a b:List Int) (ha:a.length≤8388600) (hb:b.length≤8388600) (da:Dig 65536 a) (db:Dig 65536 b):∀(n i:Nat) (out:List Int) (c:Int),2*(max a.length b.length-i)+c.toNat≤n→i≤max a.length b.length+1→(i≤max a.length b.length∨c=0)→out.length=i→Dig 65536 out→0≤c∧c≤1→val 65536 out+c*65536^i=val 65536 (a.take i)+val 65536 (b.take i) →
  ∃r,Ev (fun k=>tribunalref02_addD.l0 k a b out c (i:Int)) r∧Dig 65536 r∧val 65536 r=val 65536 a+val 65536 b∧r.length≤max a.length b.length+1:=by
 intro n
 induction n with
 | zero=>
  intro i out c hn him aa ho hd hc hv
  refine⟨out,⟨2,fun k hk=>?_⟩,hd,?_,Z0⟩
  ·obtain⟨k,rfl⟩:∃j,k=j+2:=⟨k-2,Z0⟩
   exact addD_end k a b out c i Z0 Z0 Z0
  rw[List.take_of_length_le Z0,List.take_of_length_le Z0,show c=0 from by omega]at hv
  omega
 | succ n ih=>
  intro i out c hn him aa ho hd hc hv
  by_cases h:i<a.length∨i<b.length∨0<c
  ·have ga:=getD_dig J0 da i
   have gb:=getD_dig J0 db i
   have hx:(a.length≤i→a.getD i 0=0):=getD_ge a i
   have hy:(b.length≤i→b.getD i 0=0):=getD_ge b i
   obtain⟨r,⟨K,hr⟩,hq⟩:=ih (i+1) (out++[(a.getD i 0+b.getD i 0+c)%65536]) ((a.getD i 0+b.getD i 0+c)/65536)
    (by by_cases h4:i<max a.length b.length
        ·omega
        have:=hx Z0;have:=hy Z0;omega)
    Z0
    (by by_cases h4:i<max a.length b.length
        ·omega
        have:=hx Z0;have:=hy Z0;omega)
    U6
    (Dig.append.2 ⟨hd,J6⟩) Z0
    Y8
   refine⟨r,⟨K+2,fun k hk=>?_⟩,hq⟩
   obtain⟨k,rfl⟩:∃j,k=j+2:=⟨k-2,Z0⟩
   show tribunalref02_addD.l0 (k+2) a b out c (i:Int)=some r
   rw[addD_step k a b out c i h Z0 Z0 Z0 ho da db hc]
   exact hr k Z0
  refine⟨out,⟨2,fun k hk=>?_⟩,hd,?_,Z0⟩
  ·obtain⟨k,rfl⟩:∃j,k=j+2:=⟨k-2,Z0⟩
   exact addD_end k a b out c i Z0 Z0 Z0
  rw[List.take_of_length_le Z0,List.take_of_length_le Z0,show c=0 from by omega]at hv
  omega
theorem addD_ev (a b:List Int) (ha:a.length≤8388600) (hb:b.length≤8388600) (da:Dig 65536 a) (db:Dig 65536 b) :
  ∃r,Ev (fun k=>tribunalref02_addD.f k a b) r∧Dig 65536 r∧val 65536 r=val 65536 a+val 65536 b∧r.length≤max a.length b.length+1:=by
 obtain⟨r,⟨K,hr⟩,hq⟩:=addD_l0 a b ha hb da db _ 0 [] 0 (Nat.le_refl _) Z0 (.inr rfl) rfl Dig.nil Z0 Ya
 refine⟨r,⟨K,fun k hk=>?_⟩,hq⟩
 show tribunalref02_addD.f k a b=some r
 rw[tribunalref02_addD.f]
 exact hr k hk
theorem w32 (n:Int) (h:-2147483648≤n∧n≤2147483647):wrap32 n=n:=by unfold wrap32;omega
theorem subD_step (k:Nat) (a b out:List Int) (c:Int) (i:Nat) (hi:i<a.length) (ha:a.length≤8388608) (ho:out.length=i) (da:Dig 65536 a) (db:Dig 65536 b) (hc:0≤c∧c≤1) :
  tribunalref02_subD.l0 (k+1) a b out c (i:Int)=tribunalref02_subD.l0 k a b (out++[(a.getD i 0-b.getD i 0-c)%65536]) (if a.getD i 0<b.getD i 0+c then 1 else 0) ((i+1:Nat):Int):=by
 have ga:=getD_dig J0 da i
 have gb:=getD_dig J0 db i
 have hw:wrap64 ((i:Int)+1)=((i+1:Nat):Int):=by rw[w64 _ Z0];omega
 rw[tribunalref02_subD.l0,rd_getD,rd_getD,hw,w32 (a.getD i 0) Z0,w32 (b.getD i 0) Z0,w32 (a.getD i 0-c) Z0,w32 (a.getD i 0-c-b.getD i 0) Z0,w32 (a.getD i 0-c-b.getD i 0+65536) Z0,w32 (a.getD i 0-c+65536) Z0,if_pos Z0,if_pos Z0]
 by_cases h2:(i:Int)<(b.length:Int)
 ·rw[if_pos h2]
  by_cases h3:a.getD i 0-c-b.getD i 0<0
  ·rw[if_pos h3,if_pos Z0,if_pos Z0,IntKind.wrap_u16,show(a.getD i 0-c-b.getD i 0+65536)%65536=(a.getD i 0-b.getD i 0-c)%65536 from by omega]
  rw[if_neg h3,if_pos Z0,if_neg Z0,IntKind.wrap_u16,show(a.getD i 0-c-b.getD i 0)%65536=(a.getD i 0-b.getD i 0-c)%65536 from by omega]
 have h0:=getD_ge b i Z0
 rw[if_neg h2]
 by_cases h3:a.getD i 0-c<0
 ·rw[if_pos h3,if_pos Z0,if_pos Z0,IntKind.wrap_u16,show(a.getD i 0-c+65536)%65536=(a.getD i 0-b.getD i 0-c)%65536 from by omega]
 rw[if_neg h3,if_pos Z0,if_neg Z0,IntKind.wrap_u16,show(a.getD i 0-c)%65536=(a.getD i 0-b.getD i 0-c)%65536 from by omega]
theorem subD_l0 (a b:List Int) (hl:a.length≤8388608) (hb:b.length≤a.length) (hle:val 65536 b≤val 65536 a) (da:Dig 65536 a) (db:Dig 65536 b):∀(n i:Nat) (out:List Int) (c:Int),i+n=a.length→out.length=i→Dig 65536 out→0≤c∧c≤1→val 65536 out-c*65536^i=val 65536 (a.take i)-val 65536 (b.take i) →
  ∃r,Ev (fun k=>tribunalref02_subD.l0 k a b out c (i:Int)) r∧Rep 65536 (val 65536 a-val 65536 b) r:=by
 intro n
 induction n with
 | zero=>
  intro i out c hi ho hd hc hv
  obtain⟨r,⟨K,hr⟩,h1,h2,h3⟩:=tribunalref02_trim_ev (B:=65536) (l:=out) Z0 hd
  refine⟨r,⟨K+1,fun k hk=>?_⟩,h1,h2,?_⟩
  ·obtain⟨k,rfl⟩:∃j,k=j+1:=⟨k-1,Z0⟩
   have hk':tribunalref02_trim.f k out=some r:=hr k Z0
   show tribunalref02_subD.l0 (k+1) a b out c (i:Int)=some r
   rw[tribunalref02_subD.l0,if_neg Z0,hk',Option.bind_some]
  rw[h3]
  rw[List.take_of_length_le Z0,List.take_of_length_le Z0]at hv
  have g1:=val_lt (B:=65536) J0 hd
  have g2:=val_nonneg (B:=65536) J0 hd
  rw[ho]at g1
  exact borrow_none ⟨g2,g1⟩ hc hle hv
 | succ n ih=>
  intro i out c hi ho hd hc hv
  have hil:i<a.length:=by omega
  have ga:=getD_dig J0 da i
  have gb:=getD_dig J0 db i
  obtain⟨r,⟨K,hr⟩,hq⟩:=ih (i+1) (out++[(a.getD i 0-b.getD i 0-c)%65536]) (if a.getD i 0<b.getD i 0+c then 1 else 0) Z0 U6
   (Dig.append.2 ⟨hd,J6⟩) Y9
   D7
  refine⟨r,⟨K+1,fun k hk=>?_⟩,hq⟩
  obtain⟨k,rfl⟩:∃j,k=j+1:=⟨k-1,Z0⟩
  show tribunalref02_subD.l0 (k+1) a b out c (i:Int)=some r
  rw[subD_step k a b out c i hil hl ho da db hc]
  exact hr k Z0
theorem subD_ev (a b:List Int) (ha:a.length≤8388608) (hb:b.length≤a.length) (hle:val 65536 b≤val 65536 a) (da:Dig 65536 a) (db:Dig 65536 b) :
  ∃r,Ev (fun k=>tribunalref02_subD.f k a b) r∧Rep 65536 (val 65536 a-val 65536 b) r:=by
 obtain⟨r,⟨K,hr⟩,hq⟩:=subD_l0 a b ha hb hle da db a.length 0 [] 0 Z0 rfl Dig.nil Z0 Ya
 refine⟨r,⟨K,fun k hk=>?_⟩,hq⟩
 show tribunalref02_subD.f k a b=some r
 rw[tribunalref02_subD.f]
 exact hr k hk
theorem Make_ev (s:Bool) (l:List Int) (hl:l.length<9223372036854775807) (hd:Dig 65536 l):∃r,Ev (fun k=>tribunalref02_Make.f k s l) (s&&decide (0<r.length),r)∧Dig 65536 r∧Top r∧val 65536 r=val 65536 l:=by
 obtain⟨r,⟨K,hr⟩,h⟩:=tribunalref02_trim_ev (B:=65536) (l:=l) hl hd
 refine⟨r,⟨K,fun k hk=>?_⟩,h⟩
 have hk':tribunalref02_trim.f k l=some r:=hr k hk
 show tribunalref02_Make.f k s l=_
 simp only[tribunalref02_Make.f,hk',Option.bind_some]
 cases s<;>simp
theorem Make_num {v:Int} {l:List Int} (b:Bool) (hl:l.length<9223372036854775807) (hd:Dig 65536 l) (hv:val 65536 l=v) {n:Int} (hn:n=if b then -v else v):∃u r,Ev (fun k=>tribunalref02_Make.f k b l) (u,r)∧Num 65536 n u r:=by
 obtain⟨r,h,h1,h2,h3⟩:=Make_ev b l hl hd
 exact⟨_,r,h,Num.of_rep' J0 ⟨h1,h2,h3.trans hv⟩ b hn⟩
theorem rep_four {v:Int} (h:0≤v∧v<18446744073709551616) (b:Bool) {n:Int} (hn:n=if b then -v else v):∃u r,Ev (fun k=>tribunalref02_Make.f k b [IntKind.u16.wrap v,IntKind.u16.wrap (v/65536),IntKind.u16.wrap (v/4294967296),IntKind.u16.wrap (v/281474976710656)]) (u,r)∧Num 65536 n u r∧r.length≤4:=by
 obtain⟨hv4,hd4⟩:=limb4 v h
 obtain⟨u,r,hr,hN⟩:=Make_num b Z1 hd4 hv4 hn
 refine⟨u,r,hr,hN,rep_len J0 hN.rep ?_⟩
 rw[←pow4]
 cases b<;>simp at hn<;>omega
theorem u64_neg {n:Int} (h:-9223372036854775808≤n∧n<0):IntKind.u64.wrap (-(IntKind.u64.wrap n)) = -n:=by
 simp only[IntKind.wrap_u64];omega
theorem u64_pos {n:Int} (h:0≤n∧n≤9223372036854775807):IntKind.u64.wrap n=n:=by
 simp only[IntKind.wrap_u64];omega
theorem Small1_num {n:Int} (h:-9223372036854775808≤n∧n≤9223372036854775807):∃u d,Ev (fun k=>tribunalref02_Small1.f k n) (u,d)∧Num 65536 n u d∧d.length≤4:=by
 by_cases h0:n<0
 ·obtain⟨u,r,⟨K,hr⟩,hN⟩:=rep_four (v := -n) Z0 true (n:=n) Z1
  refine⟨u,r,⟨K,fun k hk=>?_⟩,hN⟩
  have g:=hr k hk
  show tribunalref02_Small1.f k n=_
  rw[tribunalref02_Small1.f,if_pos h0,u64_neg Z0]
  replace g:tribunalref02_Make.f k true _=_:=g
  rw[g,Option.bind_some]
 obtain⟨u,r,⟨K,hr⟩,hN⟩:=rep_four (v:=n) Z0 false (n:=n) Z1
 refine⟨u,r,⟨K,fun k hk=>?_⟩,hN⟩
 have g:=hr k hk
 show tribunalref02_Small1.f k n=_
 rw[tribunalref02_Small1.f,if_neg h0,u64_pos Z0]
 replace g:tribunalref02_Make.f k false _=_:=g
 rw[g,Option.bind_some]
theorem getD_set_ne (l:List Int) (i t:Nat) (v:Int) (h:i≠t):(l.set i v).getD t 0=l.getD t 0:=by
 simp[List.getD_eq_getElem?_getD,List.getElem?_set_ne h]
theorem step_arith {xy o c lo hi s1 s2:Int} (hxy:0≤xy∧xy≤18446744073709551615*18446744073709551615) (ho:0≤o∧o<18446744073709551616) (hc:0≤c∧c<18446744073709551616)
  (h1:hi=xy/18446744073709551616) (h2:lo=xy%18446744073709551616) (h3:s1=lo+o+0) (h4:s2=s1%18446744073709551616+c+0) :
  IntKind.u64.wrap (IntKind.u64.wrap (hi+s1/18446744073709551616)+s2/18446744073709551616)*18446744073709551616+s2%18446744073709551616=xy+o+c ∧
  0≤IntKind.u64.wrap (IntKind.u64.wrap (hi+s1/18446744073709551616)+s2/18446744073709551616)∧IntKind.u64.wrap (IntKind.u64.wrap (hi+s1/18446744073709551616)+s2/18446744073709551616)<18446744073709551616:=by
 simp only[IntKind.wrap_u64]
 have e1:xy=hi*18446744073709551616+lo:=by omega
 have e2:s1=(s1/18446744073709551616)*18446744073709551616+s1%18446744073709551616:=by omega
 have e3:s2=(s2/18446744073709551616)*18446744073709551616+s2%18446744073709551616:=by omega
 have lo1:0≤s1%18446744073709551616∧s1%18446744073709551616<18446744073709551616:=by omega
 generalize s1/18446744073709551616=c1 at *
 generalize s1%18446744073709551616=l1 at *
 generalize s2/18446744073709551616=c2 at *
 have l2:0≤s2%18446744073709551616∧s2%18446744073709551616<18446744073709551616:=by omega
 generalize s2%18446744073709551616=m2 at *
 have b:(hi+c1+c2)*18446744073709551616+m2=xy+o+c:=by omega
 have lo0:0≤hi:=by omega
 have b1:0≤c1:=by omega
 have b2:0≤c2:=by omega
 have b3:hi+c1+c2<18446744073709551616:=by omega
 rw[Int.emod_eq_of_lt (a:=hi+c1) Z0 Z0,Int.emod_eq_of_lt Z0 Z0]
 exact⟨b,Z0,b3⟩
theorem mstep (x y o c:Int) (hx:0≤x∧x<18446744073709551616) (hy:0≤y∧y<18446744073709551616) (ho:0≤o∧o<18446744073709551616) (hc:0≤c∧c<18446744073709551616) :
  ∃hi lo t1 c1 lo2 c2 c',bits_Mul64.f x y=some (hi,lo)∧bits_Add64.f lo o 0=some (t1,c1)∧bits_Add64.f t1 c 0=some (lo2,c2)∧IntKind.u64.wrap (IntKind.u64.wrap (hi+c1)+c2)=c'∧(0≤lo2∧lo2<18446744073709551616)∧(0≤c'∧c'<18446744073709551616)∧c'*18446744073709551616+lo2=x*y+o+c:=by
 have hxy:=mul_bound (x:=x) (y:=y) (M:=18446744073709551615) ⟨hx.1,Z0⟩ ⟨hy.1,Z0⟩
 obtain⟨hs,hc1,hc2⟩:=step_arith hxy ho hc rfl rfl rfl rfl
 refine⟨_,_,(x*y%18446744073709551616+o+0)%18446744073709551616,_,_,_,_,Mul64_eq x y hx hy,?_,?_,rfl,?_,⟨hc1,hc2⟩,hs⟩
 ·rw[bits_Add64.f,if_pos ⟨Z0,Z0,Z0,Z0⟩]
 ·rw[bits_Add64.f,if_pos ⟨Z0,Z0,Z0,Z0⟩]
 omega
theorem or_add (t:Nat) {x y:Int} (hx:0≤x∧x<18446744073709551616) (hd:∃c,x=c*2^t) (hy:0≤y∧y<2^t) (hy2:y<18446744073709551616):Go.bits .or .u64 x y=x+y∧Go.bits .or .u64 y x=x+y:=by
 obtain⟨c,rfl⟩:=hd
 have hp:(0:Int)<2^t:=Int.pow_pos J0
 have hc:0≤c:=by
  refine Classical.byContradiction fun h=>?_
  have:=Int.mul_le_mul_of_nonneg_right (show c ≤ -1 by omega) (Int.le_of_lt hp)
  omega
 obtain⟨n,rfl⟩:=Int.eq_ofNat_of_zero_le hc
 obtain⟨m,rfl⟩:=Int.eq_ofNat_of_zero_le hy.1
 have hpc:((2:Int)^t)=((2^t:Nat):Int):=by simp
 rw[hpc]at hx hy ⊢
 have hm:m<2^t:=by have:=hy.2;omega
 rw[←Int.natCast_mul]at hx ⊢
 have e:n*2^t ||| m=n*2^t+m:=by
  have:=Nat.shiftLeft_add_eq_or_of_lt (i:=t) (b:=m) hm n
  rw[Nat.shiftLeft_eq]at this
  exact this.symm
 constructor
 ·rw[bits_or_u64_nat _ _ Z0 Z0,e];omega
 rw[bits_or_u64_nat _ _ Z0 Z0,Nat.or_comm,e];omega
theorem or_nil {x:Int} (hx:0≤x∧x<18446744073709551616):Go.bits .or .u64 0 x=x:=by
 have:=(or_add 0 (x:=x) (y:=0) hx ⟨x,Z1⟩ Z1 J0).2
 rw[this];omega
structure Sh (s P Q:Int):Prop where
 s0:0≤s∧s≤63
 P0:0<P
 Q0:0<Q
 PQ:P*Q=18446744073709551616
 P1:∃t:Nat,P=2^t∧s.toNat=t
 Q1:∃t:Nat,Q=2^t∧64-s.toNat=t
theorem Sh.of (s:Int) (h:0≤s∧s≤63):∃P Q,Sh s P Q:=by
 refine⟨2^s.toNat,2^(64-s.toNat),h,Int.pow_pos J0,Int.pow_pos J0,?_,⟨_,rfl,rfl⟩,⟨_,rfl,rfl⟩⟩
 rw[←Int.pow_add,show s.toNat+(64-s.toNat)=64 from by omega]
 decide
theorem Sh.P_le {s P Q:Int} (h:Sh s P Q):P≤18446744073709551616:=by
 have:=Int.mul_le_mul_of_nonneg_left (show(1:Int)≤Q by have:=h.Q0;omega) (Int.le_of_lt h.P0)
 rw[h.PQ]at this;omega
theorem Sh.Q_le {s P Q:Int} (h:Sh s P Q):Q≤18446744073709551616:=by
 have:=Int.mul_le_mul_of_nonneg_right (show(1:Int)≤P by have:=h.P0;omega) (Int.le_of_lt h.Q0)
 rw[h.PQ]at this;omega
theorem shl_parts {P Q x:Int} (hP:0<P) (hQ:0<Q) (hPQ:P*Q=18446744073709551616) (hx:0≤x∧x<18446744073709551616) :
  x*P=x/Q*18446744073709551616+x%Q*P∧0≤x/Q∧x/Q<P∧0≤x%Q*P∧x%Q*P<18446744073709551616∧(x*P)%18446744073709551616=x%Q*P:=by
 have h1:=Int.mul_ediv_add_emod x Q
 have h2:=Int.emod_nonneg x (Int.ne_of_gt hQ)
 have h3:=Int.emod_lt_of_pos x hQ
 have h4:0≤x/Q:=Int.ediv_nonneg hx.1 (Int.le_of_lt hQ)
 have e:x*P=x/Q*18446744073709551616+x%Q*P:=by
  have:x*P=(Q*(x/Q)+x%Q)*P:=by rw[h1]
  rw[this,Int.add_mul,←hPQ,Int.mul_comm Q,Int.mul_assoc,Int.mul_comm Q P]
 have h5:0≤x%Q*P:=Int.mul_nonneg h2 (Int.le_of_lt hP)
 have h6:x%Q*P<18446744073709551616:=by
  rw[←hPQ,Int.mul_comm P Q]
  exact Int.mul_lt_mul_of_pos_right h3 hP
 refine⟨e,h4,?_,h5,h6,?_⟩
 ·refine Int.ediv_lt_of_lt_mul hQ ?_
  rw[hPQ];exact hx.2
 rw[e,Int.mul_add_emod_self_right];exact Int.emod_eq_of_lt h5 h6
theorem Sh.eqL {s P Q x:Int} (h:Sh s P Q) (hx:0≤x∧x<18446744073709551616):shl .u64 x s=x%Q*P:=by
 obtain⟨t,e,et⟩:=h.P1
 have:=(shl_parts h.P0 h.Q0 h.PQ hx).2.2.2.2.2
 have hs:=h.s0
 unfold Go.Proofs.YtncomlmhagaajaaGreatDoorW.PrintWords.shl
 rw[show min s.toNat IntKind.u64.bits=t from by show min s.toNat 64=t;omega,←e,IntKind.wrap_u64,this]
theorem Sh.eqR {s P Q x:Int} (h:Sh s P Q):shr .u64 x s=x/P:=by
 obtain⟨t,e,et⟩:=h.P1
 have hs:=h.s0
 unfold Go.Proofs.YtncomlmhagaajaaGreatDoorW.PrintWords.shr
 rw[show min s.toNat IntKind.u64.bits=t from by show min s.toNat 64=t;omega,←e]
theorem Sh.count {s P Q:Int} (h:Sh s P Q):IntKind.u64.wrap (64-s)=64-s:=by
 have hs:=h.s0
 rw[IntKind.wrap_u64];omega
theorem Sh.eqR' {s P Q x:Int} (h:Sh s P Q):shr .u64 x (64-s)=x/Q:=by
 obtain⟨t,e,et⟩:=h.Q1
 have hs:=h.s0
 unfold Go.Proofs.YtncomlmhagaajaaGreatDoorW.PrintWords.shr
 rw[show min (64-s).toNat IntKind.u64.bits=t from by show min (64-s).toNat 64=t;omega,←e]
theorem Sh.eqL' {s P Q x:Int} (h:Sh s P Q) (hx:0≤x∧x<18446744073709551616):shl .u64 x (64-s)=x%P*Q:=by
 obtain⟨t,e,et⟩:=h.Q1
 have:=(shl_parts h.Q0 h.P0 (by rw[Int.mul_comm];exact h.PQ) hx).2.2.2.2.2
 have hs:=h.s0
 unfold Go.Proofs.YtncomlmhagaajaaGreatDoorW.PrintWords.shl
 rw[show min (64-s).toNat IntKind.u64.bits=t from by show min (64-s).toNat 64=t;omega,←e,IntKind.wrap_u64,this]
theorem val_set_getD (B:Int) (l:List Int) (i:Nat) (v:Int) (hi:i<l.length):val B (l.set i v)=val B l+(v-l.getD i 0)*B^i:=by
 rw[val_set B l i v hi,List.getD_eq_getElem?_getD,List.getElem?_eq_getElem hi,Option.getD_some]
theorem getD_set_eq (l:List Int) (i:Nat) (v:Int) (hi:i<l.length):(l.set i v).getD i 0=v:=by
 rw[List.getD_eq_getElem?_getD,List.getElem?_set_self hi,Option.getD_some]
theorem div_eq {T y g:Int} (hy:0<y) (h1:g*y≤T) (h2:T<(g+1)*y):T/y=g:=by
 have:=Int.le_ediv_of_mul_le hy h1
 have:=Int.ediv_lt_of_lt_mul hy h2
 omega
structure Half (y yn1 yn0 u d q r:Int):Prop where
 hy:y=yn1*4294967296+yn0
 y1:2147483648≤yn1∧yn1<4294967296
 y0:0≤yn0∧yn0<4294967296
 hu:0≤u∧u<y
 hd:0≤d∧d<4294967296
 hq:0≤q∧q≤4294967297
 hr:0≤r∧r<4294967296
 hqr:u=q*yn1+r
 top:u*4294967296+d<(q+1)*y
theorem Half.start {y yn1 yn0 u d:Int} (hy:y=yn1*4294967296+yn0) (y1:2147483648≤yn1∧yn1<4294967296) (y0:0≤yn0∧yn0<4294967296) (hu:0≤u∧u<y) (hd:0≤d∧d<4294967296):Half y yn1 yn0 u d (u/yn1) (u%yn1):=by
 have h1:=Int.mul_ediv_add_emod u yn1
 have h2:=Int.emod_nonneg u (show yn1≠0 by omega)
 have h3:=Int.emod_lt_of_pos u (show 0<yn1 by omega)
 have h4:0≤u/yn1:=Int.ediv_nonneg hu.1 Z0
 have h5:u/yn1<4294967298:=Int.ediv_lt_of_lt_mul Z0 Z0
 rw[Int.mul_comm]at h1
 refine⟨hy,y1,y0,hu,hd,⟨h4,Z0⟩,⟨h2,Z0⟩,h1.symm,?_⟩
 have h6:0≤(u/yn1+1)*yn0:=Int.mul_nonneg Z0 y0.1
 have h7:(u/yn1+1)*y=(u/yn1*yn1+yn1)*4294967296+(u/yn1+1)*yn0:=by
  rw[hy,Int.mul_add,←Int.mul_assoc,Int.add_mul (u/yn1) 1 yn1,Int.one_mul]
 rw[h7];omega
theorem Half.eqs {y yn1 yn0 u d q r:Int} (h:Half y yn1 yn0 u d q r):u*4294967296+d-q*y=r*4294967296+d-q*yn0:=by
 have e:q*y=q*yn1*4294967296+q*yn0:=by rw[h.hy,Int.mul_add,←Int.mul_assoc]
 have:=h.hqr
 rw[e];omega
theorem Half.below {y yn1 yn0 u d q r:Int} (h:Half y yn1 yn0 u d q r):u*4294967296+d<4294967296*y:=by
 have:=h.hu;have:=h.hd;omega
theorem Half.good {y yn1 yn0 u d q r:Int} (h:Half y yn1 yn0 u d q r) (hc:q*yn0≤r*4294967296+d):(u*4294967296+d)/y=q:=by
 have e:=h.eqs
 have hy:=h.hy;have h1:=h.y1;have h2:=h.y0
 exact div_eq Z0 Z0 h.top
theorem Half.much {y yn1 yn0 u d q r:Int} (h:Half y yn1 yn0 u d q r) (hc:q≥4294967296∨q*yn0>r*4294967296+d):u*4294967296+d<q*y∧1≤q:=by
 have e:=h.eqs
 have hy:=h.hy;have h1:=h.y1;have h2:=h.y0;have h3:=h.hd;have h4:=h.hr;have h5:=h.hq
 rcases hc with hc|hc
 ·have:=h.below
  have h6:=Int.mul_le_mul_of_nonneg_right (show 4294967296≤q from hc) (show 0≤y by omega)
  omega
 refine⟨Z0,?_⟩
 refine Classical.byContradiction fun hx=>?_
 have:q=0:=by omega
 rw[this]at hc;omega
theorem Half.next {y yn1 yn0 u d q r:Int} (h:Half y yn1 yn0 u d q r) (hc:q≥4294967296∨q*yn0>r*4294967296+d) (hr:r+yn1<4294967296):Half y yn1 yn0 u d (q-1) (r+yn1):=by
 obtain⟨h1,h2⟩:=h.much hc
 have h3:=h.hqr;have h4:=h.hq;have h5:=h.hr;have h6:=h.y1
 refine⟨h.hy,h.y1,h.y0,h.hu,h.hd,Z0,Z0,?_,by rw[show q-1+1=q from by omega];exact h1⟩
 rw[Int.sub_mul,Int.one_mul];omega
theorem Half.last {y yn1 yn0 u d q r:Int} (h:Half y yn1 yn0 u d q r) (hc:q≥4294967296∨q*yn0>r*4294967296+d) (hr:r+yn1≥4294967296):(u*4294967296+d)/y=q-1:=by
 obtain⟨h1,h2⟩:=h.much hc
 have h3:=h.hqr;have h4:=h.hq;have h5:=h.hr;have h6:=h.y1;have h7:=h.y0;have h8:=h.hd;have hy:=h.hy
 refine div_eq Z0 ?_ (by rw[show q-1+1=q from by omega];exact h1)
 have e:=h.eqs
 have e2:(q-1)*y=q*y-y:=by rw[Int.sub_mul,Int.one_mul]
 have e3:(q-1)*yn0=q*yn0-yn0:=by rw[Int.sub_mul,Int.one_mul]
 have h9:=Int.mul_le_mul (show q-1≤4294967296 by omega) (show yn0≤4294967295 by omega) h7.1 J0
 rw[e2];omega
theorem Half.quot {y yn1 yn0 u d q r:Int} (h:Half y yn1 yn0 u d q r):0≤(u*4294967296+d)/y∧(u*4294967296+d)/y<4294967296:=by
 have h3:=h.hu;have h4:=h.hd;have hy:=h.hy;have h6:=h.y1;have h7:=h.y0
 exact⟨Int.ediv_nonneg Z0 Z0,Int.ediv_lt_of_lt_mul Z0 h.below⟩
theorem Half.qy {y yn1 yn0 u d q r:Int} (h:Half y yn1 yn0 u d q r) (hq:q<4294967296):0≤q*yn0∧q*yn0<18446744073709551616:=by
 have h1:=h.y0;have h2:=h.hq
 refine⟨Int.mul_nonneg h2.1 h1.1,?_⟩
 have:=Int.mul_le_mul (show q≤4294967295 by omega) (show yn0≤4294967295 by omega) h1.1 J0
 omega
theorem u64_in {x:Int} (h:0≤x∧x<18446744073709551616):IntKind.u64.wrap x=x:=by
 rw[IntKind.wrap_u64];omega
theorem Div64_l0 {y yn1 yn0 u d:Int} (s e:Int) (R:Int×Int) (hR:Ev (fun k=>bits_Div64.j2 k y s yn1 yn0 u d e ((u*4294967296+d)/y)) R):∀(n:Nat) (q r:Int),(4294967296-r).toNat≤n→Half y yn1 yn0 u d q r→Ev (fun k=>bits_Div64.l0 k y s yn1 yn0 u d e q r) R:=by
 obtain⟨K0,hR⟩:=hR
 intro n
 induction n with
 | zero=>intro q r hn h;have:=h.hr;omega
 | succ n ih=>
  intro q r hn h
  have h2:=h.hq;have h3:=h.hr;have h4:=h.y1;have h5:=h.hd;have h6:=h.y0
  have key:∀k,bits_Div64.l0 (k+1) y s yn1 yn0 u d e q r=bits_Div64.j1 k y s yn1 yn0 u d e q r (decide (q≥4294967296∨q*yn0>r*4294967296+d)):=by
   intro k
   rw[bits_Div64.l0]
   by_cases hc:q≥4294967296
   ·rw[if_pos hc,decide_eq_true (Or.inl hc)]
   have:=h.qy Z0
   rw[if_neg hc,u64_in this,u64_in (x:=4294967296*r) Z0,u64_in (x:=4294967296*r+d) Z0]
   congr 1
   apply Bool.eq_iff_iff.2
   simp only[decide_eq_true_eq]
   constructor
   ·intro hx;right;omega
   intro hx;rcases hx with hx|hx<;>omega
  by_cases hc:q≥4294967296∨q*yn0>r*4294967296+d
  ·have hq1:=(h.much hc).2
   by_cases ho:r+yn1≥4294967296
   ·refine⟨K0+2,fun k hk=>?_⟩
    obtain⟨k,rfl⟩:∃j,k=j+2:=⟨k-2,Z0⟩
    show bits_Div64.l0 (k+1+1) y s yn1 yn0 u d e q r=some R
    rw[key,decide_eq_true hc,bits_Div64.j1,if_pos rfl,u64_in (x:=r+yn1) Z0,if_pos ho,u64_in (x:=q-1) Z0,←h.last hc ho]
    exact hR k Z0
   obtain⟨K1,h1⟩:=ih (q-1) (r+yn1) Z0 (h.next hc Z0)
   refine⟨K1+2,fun k hk=>?_⟩
   obtain⟨k,rfl⟩:∃j,k=j+2:=⟨k-2,Z0⟩
   show bits_Div64.l0 (k+1+1) y s yn1 yn0 u d e q r=some R
   rw[key,decide_eq_true hc,bits_Div64.j1,if_pos rfl,u64_in (x:=r+yn1) Z0,if_neg ho,u64_in (x:=q-1) Z0]
   exact h1 k Z0
  refine⟨K0+2,fun k hk=>?_⟩
  obtain⟨k,rfl⟩:∃j,k=j+2:=⟨k-2,Z0⟩
  show bits_Div64.l0 (k+1+1) y s yn1 yn0 u d e q r=some R
  rw[key,decide_eq_false hc,bits_Div64.j1,if_neg J0]
  have hg:=h.good Z0
  rw[←hg]
  exact hR k Z0
theorem Div64_fin {y s P Q u d q g:Int} (h:Sh s P Q) (hy:0<y∧y<18446744073709551616) (hu:0≤u∧u<y) (hd:0≤d∧d<4294967296) (hg:(u*4294967296+d)/y=g) (hg0:0≤g∧g<4294967296) (hq:0≤q∧q<4294967296) :
  (if 0≤s then some (IntKind.u64.wrap (IntKind.u64.wrap (q*4294967296)+g),Go.Proofs.YtncomlmhagaajaaGreatDoorW.PrintWords.shr .u64 (IntKind.u64.wrap (IntKind.u64.wrap (IntKind.u64.wrap (u*4294967296)+d)-IntKind.u64.wrap (g*y))) s) else none)=some (q*4294967296+g,(u*4294967296+d)%y/P):=by
 have hs:=h.s0
 have h1:=Int.emod_nonneg (u*4294967296+d) (show y≠0 by omega)
 have h2:=Int.emod_lt_of_pos (u*4294967296+d) hy.1
 have h3:=Int.mul_ediv_add_emod (u*4294967296+d) y
 rw[hg,Int.mul_comm y g]at h3
 rw[if_pos hs.1,u64_in (x:=q*4294967296) Z0,u64_in (x:=q*4294967296+g) Z0,h.eqR]
 have e:IntKind.u64.wrap (IntKind.u64.wrap (IntKind.u64.wrap (u*4294967296)+d)-IntKind.u64.wrap (g*y))=(u*4294967296+d)%y:=by
  simp only[IntKind.wrap_u64]
  omega
 rw[e]
theorem Div64_l1 {y yn1 yn0 u d s P Q:Int} (hs:Sh s P Q) (hy:0<y∧y<18446744073709551616) (g:Int) (hg:0≤g∧g<4294967296):∀(n:Nat) (q r:Int),(4294967296-r).toNat≤n→Half y yn1 yn0 u d q r→Ev (fun k=>bits_Div64.l1 k y s yn1 yn0 d g r u q) (g*4294967296+(u*4294967296+d)/y,(u*4294967296+d)%y/P):=by
 intro n
 induction n with
 | zero=>intro q r hn h;have:=h.hr;omega
 | succ n ih=>
  intro q r hn h
  have h2:=h.hq;have h3:=h.hr;have h4:=h.y1;have h5:=h.hd;have h6:=h.y0
  have hquot:=h.quot
  have key:∀k,bits_Div64.l1 (k+1) y s yn1 yn0 d g r u q=bits_Div64.j4 k y s yn1 yn0 d g r u q (decide (q≥4294967296∨q*yn0>r*4294967296+d)):=by
   intro k
   rw[bits_Div64.l1]
   by_cases hc:q≥4294967296
   ·rw[if_pos hc,decide_eq_true (Or.inl hc)]
   have:=h.qy Z0
   rw[if_neg hc,u64_in this,u64_in (x:=4294967296*r) Z0,u64_in (x:=4294967296*r+d) Z0]
   congr 1
   apply Bool.eq_iff_iff.2
   simp only[decide_eq_true_eq]
   constructor
   ·intro hx;right;omega
   intro hx;rcases hx with hx|hx<;>omega
  by_cases hc:q≥4294967296∨q*yn0>r*4294967296+d
  ·have hq1:=(h.much hc).2
   by_cases ho:r+yn1≥4294967296
   ·have hl:=h.last hc ho
    refine⟨2,fun k hk=>?_⟩
    obtain⟨k,rfl⟩:∃j,k=j+2:=⟨k-2,Z0⟩
    show bits_Div64.l1 (k+1+1) y s yn1 yn0 d g r u q=_
    rw[key,decide_eq_true hc,bits_Div64.j4,if_pos rfl,u64_in (x:=r+yn1) Z0,if_pos ho,u64_in (x:=q-1) Z0,Div64_fin hs hy h.hu h.hd hl (by rw[←hl];exact hquot) hg,hl]
   obtain⟨K1,h1⟩:=ih (q-1) (r+yn1) Z0 (h.next hc Z0)
   refine⟨K1+2,fun k hk=>?_⟩
   obtain⟨k,rfl⟩:∃j,k=j+2:=⟨k-2,Z0⟩
   show bits_Div64.l1 (k+1+1) y s yn1 yn0 d g r u q=_
   rw[key,decide_eq_true hc,bits_Div64.j4,if_pos rfl,u64_in (x:=r+yn1) Z0,if_neg ho,u64_in (x:=q-1) Z0]
   exact h1 k Z0
  have hl:=h.good Z0
  refine⟨2,fun k hk=>?_⟩
  obtain⟨k,rfl⟩:∃j,k=j+2:=⟨k-2,Z0⟩
  show bits_Div64.l1 (k+1+1) y s yn1 yn0 d g r u q=_
  rw[key,decide_eq_false hc,bits_Div64.j4,if_neg J0,Div64_fin hs hy h.hu h.hd hl (by rw[←hl];exact hquot) hg,hl]
end Go.Proofs.YtncomlmhagaajaaGreatDoor.PurePRp
