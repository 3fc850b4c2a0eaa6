/- Part 2 of what the card rests on. -/
import Derived.Deep.RegionWith
import Derived.Test.YtncomlmhagaajaaGreatDoorCp1
set_option maxHeartbeats 8000000
set_option maxRecDepth 100000
set_option linter.unusedVariables false
set_option linter.unusedSimpArgs false
namespace Go.Proofs.YtncomlmhagaajaaGreatDoor.PRp
open Go.RowKit Go.Proofs.YtncomlmhagaajaaGreatDoorW.PrintWords Go.Proofs.YtncomlmhagaajaaGreatDoorW.PrintLast Go.Proofs.YtncomlmhagaajaaGreatDoorW.PrintMore
open Go.Proofs.YtncomlmhagaajaaGreatDoor.Mine
attribute [local go_sem] max2_int min2_int max_two min_two max_three min_three max_four min_four
theorem cut_to3 {P:Program} (t e:TypeId) (kh km:IntKind) {i:TypeInfo} (ht:P.underlying t=some (.slice e)) (hi:P.info? e=some i) (A:Option Addr) (n c:Nat) (j:Int) (h0:0≤j) (hm:j≤n) (hc:n≤c) :
  ∀W:World,(Instr.slice t (.slice A n c) none (some (.int kh j)) (some (.int km j))).run P W=.ok (.slice A j.toNat j.toNat) W:=by
 intro W
 have hel:P.elem t=e:=by simp[Program.elem,ht]
 have hu:P.underlying t=some (.slice (P.elem t)):=by rw[hel];exact ht
 have ha:(A.map fun x=>x.add 0)=A:=by cases A<;>simp[Addr.add]
 rw[run_slice_hm W t A n c hu kh km j j h0 Z0 Z0,hel]
 simp[sizeOf,typeInfo,hi,sliced,Result.andThen,ha]
def nat_trim.l0:Nat→List Int→Int→Option (List Int)
 | 0,_,_=>none
 | k+1,x0,x3=>if x3>0 then(if 0≤(wrap64 (x3-1)) then(if(wrap64 (x3-1))<(x0.length:Int) then(if(rd x0 (wrap64 (x3-1)))=0 then(nat_trim.l0 k x0 (wrap64 (x3-1))) else(if 0≤x3 then(if x3≤(x0.length:Int) then(some (x0.take (x3:Int).toNat)) else(none)) else(none))) else(none)) else(none)) else(if 0≤x3 then(if x3≤(x0.length:Int) then(some (x0.take (x3:Int).toNat)) else(none)) else(none))
def nat_trim.f (k:Nat) (l0:List Int):Option (List Int):=nat_trim.l0 k l0 (l0.length:Int)
theorem nat_trim.calls (k:Nat) (P0_:Nat→Prop) (A0:Option Addr) (c0:Nat) (l0:List Int) (r:List Int) (w:World) (hs0:Kd.V (Kd.int .u64) 91 w w.heap.size (fun k_=>P0_ k_) (.slice A0 l0.length c0) l0) (h:nat_trim.f k l0=some r) :
  Calls Tryz.prog 115 #[.slice A0 l0.length c0] w fun e w'=>∃v0_:Value,e=.returned (v0_)∧Kd.V (Kd.int .u64) 91 w' w.heap.size (fun k_=>(P0_ k_∨w.heap.size≤k_)) v0_ r∧Below w.heap.size w w':=by
 have HO0:=Aside0.mk (show Kd.V (Kd.int .u64) 91 w w.heap.size (fun k_=>(P0_ k_∨w.heap.size≤k_)) (.slice A0 l0.length c0) l0 from Kd.V_mono hs0 (fun k_ hk=>.inl hk))
 have HB:=Aside0.mk (Below.refl w.heap.size w)
 have H:(nat_trim.l0 k l0 (l0.length:Int))=some r:=h
 clear h
 have H':=Aside0.mk H
 clear H
 go_enter Tryz.func115,Tryz.ntmps115
 go_wp2
 go_loopg [3] k (fun kq v3 w'=>∃(aa:Int),v3=.int .i64 aa∧Aside0 (nat_trim.l0 kq l0 aa=some r)∧Aside0 (kq≤k)∧Aside0 (Kd.V (Kd.int .u64) 91 w' w.heap.size (fun k_=>(P0_ k_∨w.heap.size≤k_)) (.slice A0 l0.length c0) l0)∧Aside0 (Below w.heap.size w w'))
 case atStart=>exact⟨((l0.length:Int)),Y0,H',⟨Nat.le_refl _⟩,⟨by(with_reducible repeat (first|apply Kd.V_alloc|apply Kd.V_drewN|apply Kd.V_drew));exact HO0.out⟩,⟨V5⟩⟩
 case round=>
  clear H'
  obtain⟨aa,rfl,HA,HK1,ab,HB⟩:=hrel
  cases gk with
  | zero=>exact absurd HA.out (by simp[nat_trim.l0])
  | succ k1=>
   have H:=HA.out
   clear HA
   simp only[nat_trim.l0]at H
   by_cases c2:aa>0
   ·rw [if_pos c2]at H
    have aB:decide (0<aa)=true:=decide_eq_true c2
    clear c2
    obtain⟨ji3,hji3⟩:∃j_:Int,(wrap64 (aa-1))=j_:=⟨_,rfl⟩
    replace H:(if 0≤(ji3) then(if(ji3)<(l0.length:Int) then(if(rd l0 (ji3))=0 then(nat_trim.l0 k1 l0 ji3) else(if 0≤aa then(if aa≤(l0.length:Int) then(some (l0.take (aa:Int).toNat)) else(none)) else(none))) else(none)) else(none))=some r:=by first|(rw[hji3]at H;exact H)|(simp only[hji3]at H ⊢;exact H)
    have aF:(IntKind.i64.wrap (aa-1))=ji3:=(i64_w _).trans hji3
    by_cases c4:0≤(ji3)
    ·rw [if_pos c4]at H
     have aM:decide (0≤(ji3))=true:=decide_eq_true c4
     clear c4
     by_cases c5:(ji3)<(l0.length:Int)
     ·rw[if_pos c5]at H
      have aN:decide ((ji3)<(l0.length:Int))=true:=decide_eq_true c5
      clear c5
      by_cases c6:(rd l0 (ji3))=0
      ·rw[if_pos c6]at H
       have aC:((rd l0 (ji3))==0)=true:=beq_iff_eq.mpr c6
       have aD:((rd l0 (ji3)) != 0)=false:=bne_eq_false_iff_eq.mpr c6
       clear c6
       have H':=Aside0.mk H
       clear H
       have ac:0≤((ji3):Int):=of_decide_eq_true J5
       have ad:(ji3)<(l0.length:Int):=of_decide_eq_true J5
       obtain⟨ai,al,ar⟩:=Kd.at_int (Kd.V_reads' ab.out).2.2 (ji3) ac ad
       cases al
       replace ac:=eq_true ac
       replace ad:=eq_true ad
       go_wp2
       go_roundg k1
       case measure=>have:=HK1.out;omega
       case rel=>exact⟨(ji3),Z7,H',⟨Y3⟩,⟨by(with_reducible repeat (first|apply Kd.V_alloc|apply Kd.V_drewN|apply Kd.V_drew));exact ab.out⟩,⟨V5⟩⟩
      rw[if_neg c6]at H
      have aC:((rd l0 (ji3))==0)=false:=beq_eq_false_iff_ne.mpr c6
      have aD:((rd l0 (ji3)) != 0)=true:=bne_iff_ne.mpr c6
      by_cases c7:0≤aa
      ·rw[if_pos c7]at H
       have aO:=eq_true c7
       have aP:decide (0≤aa)=true:=decide_eq_true c7
       clear c7
       by_cases c8:aa≤(l0.length:Int)
       ·rw[if_pos c8]at H
        have aQ:=eq_true c8
        have aR:decide (aa≤(l0.length:Int))=true:=decide_eq_true c8
        clear c8
        obtain⟨ag,ae⟩:∃y_:List Int,y_=(l0.take (aa:Int).toNat):=⟨_,rfl⟩
        replace H:(some ag)=some r:=by first|(rw[ae];with_reducible exact H)|(have H2_:=(Option.bind_some _ _).symm.trans H;rw[ae];with_reducible exact H2_)|(have H2_:=(Option.bind_some _ _).symm.trans H;with_reducible exact H2_)|with_reducible exact H|(rw[ae];exact H)|exact H
        have ao:=Aside0.mk ae
        clear ae
        obtain rfl:=Option.some.inj H
        have ac:0≤((ji3):Int):=of_decide_eq_true J5
        have ad:(ji3)<(l0.length:Int):=of_decide_eq_true J5
        obtain⟨ai,al,ar⟩:=Kd.at_int (Kd.V_reads' ab.out).2.2 (ji3) ac ad
        cases al
        replace ac:=eq_true ac
        replace ad:=eq_true ad
        have q9:(aa:Int)≤((l0.length:Int):Int):=of_decide_eq_true J5
        obtain⟨i09,au,_,aE,_⟩:=info_parts info91
        have ak:l0.length≤c0:=(Kd.V_reads' ab.out).2.1
        have hC9:Kd.F (Kd.int .u64) _ _ (some ai) l0.length l0:=(Kd.V_at (base:=w.heap.size) ab.out).2.2
        have ax:=cut_to3 (P:=Tryz.prog) 23 91 .i64 .i64 Tryz.underlying23 au (some ai) l0.length c0 aa (of_decide_eq_true J5) q9 ak
        have hr9:=Kd.F_take (m:=(aa:Int).toNat) hC9 Z0
        have hy9:ag.length=(aa:Int).toNat:=(by rw[ao.out,List.length_take];omega)
        rw[←ao.out]at hr9
        rw[←hy9]at ax
        have ay:=Aside0.mk (show Kd.V (Kd.int .u64) 91 _ w.heap.size _ (.slice (some ai) ag.length ag.length) ag from Kd.V_mk Z0 hr9)
        have aG:=Aside0.mk (show ag.length≤c0 from by omega)
        clear hr9 hC9 ak au aE
        have KY9:=Aside0.mk hy9
        clear hy9
        replace q9:=eq_true q9
        go_wp2
        go_ret
        exact⟨_,F3,by(with_reducible repeat (first|apply Kd.V_alloc|apply Kd.V_drewN|apply Kd.V_drew));exact ay.out,V5⟩
       rw[if_neg c8]at H
       exact absurd H Z1
      rw[if_neg c7]at H
      exact absurd H Z1
     rw[if_neg c5]at H
     exact absurd H Z1
    rw[if_neg c4]at H
    exact absurd H Z1
   rw[if_neg c2]at H
   have aB:decide (0<aa)=false:=decide_eq_false c2
   clear c2
   by_cases c10:0≤aa
   ·rw[if_pos c10]at H
    have aH:=eq_true c10
    have aI:decide (0≤aa)=true:=decide_eq_true c10
    clear c10
    by_cases c11:aa≤(l0.length:Int)
    ·rw[if_pos c11]at H
     have aJ:=eq_true c11
     have aK:decide (aa≤(l0.length:Int))=true:=decide_eq_true c11
     clear c11
     obtain⟨ah,af⟩:∃y_:List Int,y_=(l0.take (aa:Int).toNat):=⟨_,rfl⟩
     replace H:(some ah)=some r:=by first|(rw[af];with_reducible exact H)|(have H2_:=(Option.bind_some _ _).symm.trans H;rw[af];with_reducible exact H2_)|(have H2_:=(Option.bind_some _ _).symm.trans H;with_reducible exact H2_)|with_reducible exact H|(rw[af];exact H)|exact H
     have ap:=Aside0.mk af
     clear af
     obtain rfl:=Option.some.inj H
     have q12:(aa:Int)≤((l0.length:Int):Int):=of_decide_eq_true J5
     obtain⟨i012,aq,_,az,_⟩:=info_parts info91
     have aj:l0.length≤c0:=(Kd.V_reads' ab.out).2.1
     have av:Kd.F (Kd.int .u64) _ _ A0 l0.length l0:=(Kd.V_at (base:=w.heap.size) ab.out).2.2
     have aw:=cut_to3 (P:=Tryz.prog) 23 91 .i64 .i64 Tryz.underlying23 aq A0 l0.length c0 aa (of_decide_eq_true J5) q12 aj
     have am:=Kd.F_take (m:=(aa:Int).toNat) av Z0
     have an:ah.length=(aa:Int).toNat:=(by rw[ap.out,List.length_take];omega)
     rw[←ap.out]at am
     rw[←an]at aw
     have aA:=Aside0.mk (show Kd.V (Kd.int .u64) 91 _ w.heap.size _ (.slice A0 ah.length ah.length) ah from Kd.V_mk Z0 am)
     have aL:=Aside0.mk (show ah.length≤c0 from by omega)
     clear am av aj aq az
     have aS:=Aside0.mk an
     clear an
     replace q12:=eq_true q12
     go_wp2
     go_ret
     exact⟨_,by first|rfl|(simp[errW_none,errW_some]<;>rfl)|(simp[*,errW_none,errW_some]<;>rfl),by(with_reducible repeat (first|apply Kd.V_alloc|apply Kd.V_drewN|apply Kd.V_drew));exact aA.out,V5⟩
    rw[if_neg c11]at H
    exact absurd H Z1
   rw[if_neg c10]at H
   exact absurd H Z1
def nat_Len.f (k:Nat) (l0:List Int):Option (Int):=(nat_trim.f k l0).bind fun t207=>(if(t207.length:Int)=0 then(some 0) else(if 0≤(wrap64 ((t207.length:Int)-1)) then(if(wrap64 ((t207.length:Int)-1))<(t207.length:Int) then((bits_Len64.f (rd t207 (wrap64 ((t207.length:Int)-1)))).bind fun t211=>(some (wrap64 ((wrap64 (64*(wrap64 ((t207.length:Int)-1))))+t211)))) else(none)) else(none)))
theorem nat_Len.calls (k:Nat) (A0:Option Addr) (c0:Nat) (l0:List Int) (r:Int) (w:World) (hr0:Kd.C (Kd.int .u64) w A0 l0.length l0) (hc0:l0.length≤c0) (h:nat_Len.f k l0=some r) :
  Calls Tryz.prog 98 #[.slice A0 l0.length c0] w fun e w'=>e=.returned (.int .i64 r)∧Below w.heap.size w w':=by
 have HR0:=Aside0.mk hr0
 have HC0:=Aside0.mk hc0
 clear hr0 hc0
 have HB:=Aside0.mk (Below.refl w.heap.size w)
 have H:((nat_trim.f k l0).bind fun aa=>(if(aa.length:Int)=0 then(some 0) else(if 0≤(wrap64 ((aa.length:Int)-1)) then(if(wrap64 ((aa.length:Int)-1))<(aa.length:Int) then((bits_Len64.f (rd aa (wrap64 ((aa.length:Int)-1)))).bind fun ab=>(some (wrap64 ((wrap64 (64*(wrap64 ((aa.length:Int)-1))))+ab)))) else(none)) else(none))))=some r:=h
 clear h
 replace H:=Option.bind_eq_some_iff.mp H
 obtain⟨aa,A20,H⟩:=H
 replace H:(if(aa.length:Int)=0 then(some 0) else(if 0≤(wrap64 ((aa.length:Int)-1)) then(if(wrap64 ((aa.length:Int)-1))<(aa.length:Int) then((bits_Len64.f (rd aa (wrap64 ((aa.length:Int)-1)))).bind fun ab=>(some (wrap64 ((wrap64 (64*(wrap64 ((aa.length:Int)-1))))+ab)))) else(none)) else(none)))=some r:=H
 have A2:=Aside0.mk A20
 clear A20
 by_cases c3:(aa.length:Int)=0
 ·rw[if_pos c3]at H
  have ag:((aa.length:Int)==0)=true:=beq_iff_eq.mpr c3
  have ah:((aa.length:Int) != 0)=false:=bne_eq_false_iff_eq.mpr c3
  clear c3
  obtain rfl:=Option.some.inj H
  go_enter Tryz.func98,Tryz.ntmps98
  go_wp2_with (first|((with_reducible refine gate_callee (f:=115) rfl ?_);refine kgl (some 4) rfl rfl Tryz.func115 #[.slice A0 l0.length c0] rfl ?_;(with_reducible refine(nat_trim.calls k (fun k_=>k_<w.heap.size) _ _ l0 aa _ ?side1 A2.out).mono ?_);(case side1=>exact Kd.V_mk HC0.out (Kd.F_below (Kd.C_F (Kd.heap_int .u64) HR0.out) (khu HB.out)));rintro e w4 ⟨ai,rfl,ho0,hb⟩;refine⟨_,rfl,?_⟩;have ad:=Aside0.mk (Kd.V_lower (Kd.V_mono (ok':=fun k_=>True) ho0 (fun k_ hk_=>trivial)) (below_size (khu HB.out)));replace HB:=kbs HB hb;(try clear hb);(try clear hb2);(try clear hk);(try clear hi);(try clear ho0);obtain⟨Ao5,co5,eo5⟩:=Kd.V_slice ad.out;subst eo5))
  go_ret
  exact⟨B0,khu HB.out⟩
 rw[if_neg c3]at H
 have ag:((aa.length:Int)==0)=false:=beq_eq_false_iff_ne.mpr c3
 have ah:((aa.length:Int) != 0)=true:=bne_iff_ne.mpr c3
 have ao:¬(aa=[]):=fun h_=>c3 (by rw[h_];rfl)
 obtain⟨ji6,ac⟩:∃j_:Int,(wrap64 ((aa.length:Int)-1))=j_:=⟨_,rfl⟩
 replace H:(if 0≤(ji6) then(if(ji6)<(aa.length:Int) then((bits_Len64.f (rd aa (ji6))).bind fun ab=>(some (wrap64 ((wrap64 (64*(ji6)))+ab)))) else(none)) else(none))=some r:=by first|(rw[ac]at H;exact H)|(simp only[ac]at H ⊢;exact H)
 (try rw[ac]at A2)
 have am:(IntKind.i64.wrap ((aa.length:Int)-1))=ji6:=(i64_w _).trans ac
 by_cases c7:0≤(ji6)
 ·rw[if_pos c7]at H
  have ap:decide (0≤(ji6))=true:=decide_eq_true c7
  clear c7
  by_cases c8:(ji6)<(aa.length:Int)
  ·rw[if_pos c8]at H
   have aq:decide ((ji6)<(aa.length:Int))=true:=decide_eq_true c8
   clear c8
   replace H:=Option.bind_eq_some_iff.mp H
   obtain⟨ab,A90,H⟩:=H
   replace H:(some (wrap64 ((wrap64 (64*(ji6)))+ab)))=some r:=H
   have A9:=Aside0.mk A90
   clear A90
   obtain rfl:=Option.some.inj H
   go_enter Tryz.func98,Tryz.ntmps98
   go_wp2_with (first|((with_reducible refine gate_callee (f:=115) rfl ?_);refine kgl (some 4) rfl rfl Tryz.func115 #[.slice A0 l0.length c0] rfl ?_;(with_reducible refine(nat_trim.calls k (fun k_=>k_<w.heap.size) _ _ l0 aa _ ?side1 A2.out).mono ?_);(case side1=>exact Kd.V_mk HC0.out (Kd.F_below (Kd.C_F (Kd.heap_int .u64) HR0.out) (khu HB.out)));rintro e w10 ⟨ai,rfl,ho0,hb⟩;refine⟨_,rfl,?_⟩;have ad:=Aside0.mk (Kd.V_lower (Kd.V_mono (ok':=fun k_=>True) ho0 (fun k_ hk_=>trivial)) (below_size (khu HB.out)));replace HB:=kbs HB hb;(try clear hb);(try clear hb2);(try clear hk);(try clear hi);(try clear ho0);obtain⟨ar,au,aj⟩:=Kd.V_slice ad.out;subst aj;have ae:0≤((ji6):Int):=of_decide_eq_true ‹_›;have af:(ji6)<(aa.length:Int):=of_decide_eq_true ‹_›;obtain⟨an,ak,al⟩:=Kd.at_int (Kd.V_reads' ad.out).2.2 (ji6) ae af;cases ak;replace ae:=eq_true ae;replace af:=eq_true af)|((with_reducible refine gate_callee (f:=168) rfl ?_);refine goesL_ (some 18) rfl rfl Tryz.func168 X0 rfl #[.int .u64 (rd aa (ji6))] rfl (by(try simp only[List.map_toArray,List.map_cons,List.map_nil]);first|done|(simp only[ac];rfl)|rfl|(simp only[List.length_drop,List.length_take];rfl)) ?_;(with_reducible refine(bits_Len64.calls (rd aa (ji6)) ab _ A9.out).mono ?_);rintro e w' ⟨rfl,⟨nd,rfl⟩⟩;refine⟨_,rfl,?_⟩))
   go_ret
   exact⟨by first|rfl|(simp[errW_none,errW_some]<;>rfl)|(simp only[←ac];first|rfl|(simp[errW_none,errW_some]<;>rfl))|(simp[*,errW_none,errW_some]<;>rfl),khu HB.out⟩
  rw[if_neg c8]at H
  exact absurd H Z1
 rw[if_neg c7]at H
 exact absurd H Z1
def ratio_number_long.f (k:Nat) (a0_0:Bool) (l0_1:List Int):Option (Bool):=(nat_Len.f k l0_1).bind fun t213=>(some (decide (t213>65536)))
theorem ratio_number_long.calls (k:Nat) (a0_0:Bool) (A0_1:Option Addr) (c0_1:Nat) (l0_1:List Int) (r:Bool) (w:World) (hr0_1:Kd.C (Kd.int .u64) w A0_1 l0_1.length l0_1) (hc0_1:l0_1.length≤c0_1) (h:ratio_number_long.f k a0_0 l0_1=some r) :
  Calls Tryz.prog 51 #[.agg #[.bool a0_0,.slice A0_1 l0_1.length c0_1]] w fun e w'=>e=.returned (.bool r)∧Below w.heap.size w w':=by
 have hu25:=Tryz.underlying25
 have hu65:=Tryz.underlying65
 have K:=Kp.refl w
 replace K:=K.parV (Kd.V_mono (ok':=fun _=>True) (Kd.V_mk (e:=91) (base:=0) hc0_1 (Kd.C_F (Kd.heap_int .u64) hr0_1)) (fun _ h=>trivial))
 clear hr0_1 hc0_1
 try simp only[klv]at K
 rw[ratio_number_long.f]at h
 replace h:=bindA h
 obtain⟨n3,A4,h⟩:=h
 simp only[Option.some.injEq]at h
 subst h
 go_enter Tryz.func51,Tryz.ntmps51
 go_wp2_with (first|(refine gd 1 rfl ?_;refine kbk 1 #[.bool a0_0,.slice A0_1 l0_1.length c0_1] 65 K.u ?_;clear K;intro g1 W2 K;obtain⟨ua0,ub0⟩:=K.cell2 0 rfl)|(refine gd 6 rfl ?_;clear ua0 ub0;refine kgl (some 6) rfl rfl Tryz.func98 #[.slice A0_1 l0_1.length c0_1] rfl ?_;refine(nat_Len.calls _ _ _ l0_1 n3 _ (K.C 0 rfl) (K.le 0 rfl) A4.out).mono ?_;rintro e W5 ⟨rfl,hb⟩;refine⟨_,rfl,?_⟩;replace K:=K.u.up hb;clear hb))
 go_ret
 exact⟨rfl,K.u.below⟩
end Go.Proofs.YtncomlmhagaajaaGreatDoor.PRp
namespace Go.Proofs.YtncomlmhagaajaaGreatDoor.Mine
open Go Go.RowKit Go.Proofs.YtncomlmhagaajaaGreatDoorW.PrintWords Go.Proofs.YtncomlmhagaajaaGreatDoorW.PrintLast Go.Proofs.YtncomlmhagaajaaGreatDoorW.PrintMore
def setL (W:World) (g:Nat):Nat→List Value→World
 | _,[]=>W
 | o,x::xs=>setL (W.setCell ⟨g,o,none⟩ x) g (o+1) xs
def putL (cs:Array Value):Nat→List Value→Array Value
 | _,[]=>cs
 | o,x::xs=>putL (cs.setIfInBounds o x) (o+1) xs
def KV.top (v:KV):KV:=⟨v.kd,v.e,v.v,v.xs,fun _=>True⟩
namespace Kp
variable {w W W':World} {bs bs':List Bx} {vs vs' os os':List KV} {g:Nat} {t:TypeId}
theorem putN {o:Nat} {xs:List Value}:∀ {W:World} {cs:Array Value} {bs:List Bx},Kp w bs vs os W→∀(n:Nat),bs[n]? = some (g,cs,t)→Kp w (bs.set n (g,putL cs o xs,t)) vs os (setL W g o xs):=by
 induction xs generalizing o with
 | nil=>
  intro W cs bs K n hn
  have hlt:n<bs.length:=(List.getElem?_eq_some_iff.1 hn).1
  have:bs.set n (g,cs,t)=bs:=by
   refine List.ext_getElem? fun j=>?_
   rw[List.getElem?_set]
   by_cases hj:n=j
   ·subst hj;rw[if_pos rfl,if_pos hlt,hn]
   rw[if_neg hj]
  show Kp w (bs.set n (g,cs,t)) vs os W
  rw[this];exact K
 | cons x xs ih=>
  intro W cs bs K n hn
  have hlt:n<bs.length:=(List.getElem?_eq_some_iff.1 hn).1
  have K1:=K.put n hn o x rfl
  have K2:=ih (o:=o+1) K1 n (by rw[List.getElem?_set_self hlt])
  rw[List.set_set]at K2
  exact K2
theorem cells (K:Kp w bs vs os W) (n:Nat) {cs:Array Value} (hn:bs[n]? = some (g,cs,t)):∀i x,cs[i]? = some x→W.cell? ⟨g,i,none⟩=some x:=fun i _ hx=>K.cell n hn i hx
theorem names (_:Kp w bs vs os W):∃V O,Aside0 (V=vs)∧Aside0 (O=os):=⟨vs,os,⟨rfl⟩,⟨rfl⟩⟩
theorem front (K:Kp w bs vs os W) (n:Nat):Kp w (bs.take n) vs os W:=
 have hm:∀ {b:Bx},b∈bs.take n→b∈bs:=fun h=>List.mem_of_mem_take h
 ⟨K.below,fun b h=>K.blk b (hm h),K.nod.sublist ((List.take_sublist _ _).map _),fun v h=>Kd.V_mono (K.val v h) fun _ hk=>⟨hk.1,fun b hb=>hk.2 b (hm hb)⟩,fun v h=>Kd.R_mono (K.own v h) fun _ hk b hb=>hk b (hm hb),K.sep⟩
theorem carry (K:Kp w bs vs os W) (n:Nat) (is:List Nat):Kp w bs (vs.take n++is.filterMap fun i=>(vs[i]?).map KV.top) os W:=
 ⟨K.below,K.blk,K.nod,fun v hv=>by
  rcases List.mem_append.1 hv with hv|hv
  ·exact K.val v (List.mem_of_mem_take hv)
  obtain⟨i,_,hi⟩:=List.mem_filterMap.1 hv
  obtain⟨v0,h0,rfl⟩:=Option.map_eq_some_iff.1 hi
  exact Kd.V_mono (K.val v0 (List.mem_of_getElem? h0)) fun _ hk=>hk.t,K.own,K.sep⟩
theorem reV {V O l:List KV} (K:Kp w bs vs' os W) (hV:Aside0 (V=vs)) (hO:Aside0 (O=os)) (e:vs'=vs++l):Kp w bs (V++l) O W:=by
 rw[hV.out,hO.out,←e];exact K
end Kp
section
variable {P:Program} {ops:Array Oper} {Q:Exit→Act→World→Prop} {rest:List Oper} {o:Oper} {a:Act} {w W:World} {bs vs os} {g t:Nat} {cs:Array Value} {md:Region.Mode} {S:World→Prop} {ds:List Nat}
theorem kstN (n off:Nat) (xs:List Value) (K:Kp w bs vs os W) (hn:bs[n]? = some (g,cs,t))
  (hrun:(∀i x,cs[i]? = some x→W.cell? ⟨g,i,none⟩=some x)→(∀i,W.frozen? ⟨g,i,none⟩=false)→(execOp a.eval o).run P W=.ok .skip (setL W g off xs))
  (h:∀W1,Kp w (bs.set n (g,putL cs off xs,t)) vs os W1→wpList P ops Q rest a W1) (hd:o.dst=none:=by rfl) (hgd:o.guard=none:=by rfl):wpList P ops Q (o::rest) a W:=
 wpList_plain hgd fun K' hK=>by
  unfold Oper.wp
  rw[hrun (K.cells n hn) (K.fz n hn)]
  show K' (a.put o.dst undef) _
  rw[hd]
  exact hK _ _ (h _ (K.putN n hn))
theorem koneN {i:Nat} {oi:Oper} {fuel:Nat} {l:Array Bool} (l':Array Bool) (n off:Nat) (xs:List Value) (K:Kp w bs vs os W) (hn:bs[n]? = some (g,cs,t)) (hi:ops[i]? = some oi) (hN:oi.dst=none) (hc:readyB md ops l l' i=true) (hd:i∉ds) (hw:Region.wanted oi (yielded ops a.tmps)=true)
  (hrun:(∀i x,cs[i]? = some x→W.cell? ⟨g,i,none⟩=some x)→(∀i,W.frozen? ⟨g,i,none⟩=false)→(execOp a.eval oi).run P W=.ok .skip (setL W g off xs))
  (hS:∀W1,Kp w (bs.set n (g,putL cs off xs,t)) vs os W1→S W1) (h:∀W1,Kp w (bs.set n (g,putL cs off xs,t)) vs os W1→wpAnyLast P md ops Q S ds fuel l' a W1):wpAnyLast P md ops Q S ds (fuel+1) l a W:=by
 refine one_ l' hi hN hc hd fun K' hK=>skip_ hw hN (hrun (K.cells n hn) (K.fz n hn)) ?_
 exact hK.out _ _ (hS _ (K.putN n hn)) fun _=>h _ (K.putN n hn)
end
theorem normC {P:Program} {c:Code} {Q:Exit→Act→World→Prop} {a a':Act} {w:World} (ha:a=a') (h:c.wp P Q a' w):c.wp P Q a w:=by
 subst ha;exact h
theorem kpl:(∀(cs:Array Value) (o:Nat),putL cs o []=cs)∧(∀(cs:Array Value) (o:Nat) (x:Value) (xs:List Value),putL cs o (x::xs)=putL (cs.setIfInBounds o x) (o+1) xs):=⟨fun _ _=>rfl,fun _ _ _ _=>rfl⟩
end Go.Proofs.YtncomlmhagaajaaGreatDoor.Mine
namespace Go.Proofs.YtncomlmhagaajaaGreatDoor.PRp
open Go.RowKit Go.Proofs.YtncomlmhagaajaaGreatDoorW.PrintWords Go.Proofs.YtncomlmhagaajaaGreatDoorW.PrintLast Go.Proofs.YtncomlmhagaajaaGreatDoorW.PrintMore
open Go.Proofs.YtncomlmhagaajaaGreatDoor.Mine
attribute [local go_sem] max2_int min2_int max_two min_two max_three min_three max_four min_four
def ratio_made.f (k:Nat) (a0_0:Bool) (l0_1:List Int) (l0_2:List Int):Option (Bool×List Int×Bool×List Int×Int):=(nat_Len.f k l0_2).bind fun t216=>(if t216=0 then(some (false,([]:List Int),false,([]:List Int),11)) else((ratio_number_long.f k a0_0 l0_1).bind fun t218=>(if t218=true then(some (false,([]:List Int),false,([]:List Int),5)) else((ratio_number_long.f k false l0_2).bind fun t219=>(if t219=true then(some (false,([]:List Int),false,([]:List Int),5)) else(some (a0_0,l0_1,false,l0_2,0)))))))
theorem ratio_made.calls (k:Nat) (ac:Bool) (P0_1_:Nat→Prop) (af:Option Addr) (ag:Nat) (ab:List Int) (P0_2_:Nat→Prop) (ad:Option Addr) (ae:Nat) (aa:List Int) (r1:Bool) (r2:List Int) (r3:Bool) (r4:List Int) (r5:Int) (w:World) (ah:Kd.V (Kd.int .u64) 91 w w.heap.size (fun k_=>P0_1_ k_) (.slice af ab.length ag) ab) (ai:Kd.V (Kd.int .u64) 91 w w.heap.size (fun k_=>P0_2_ k_) (.slice ad aa.length ae) aa) (h:ratio_made.f k ac ab aa=some (r1,r2,r3,r4,r5)) :
  Calls Tryz.prog 37 #[.agg #[.bool ac,.slice af ab.length ag,.slice ad aa.length ae]] w fun e w'=>∃v1_ v3_:Value,e=.returned (.tuple #[.agg #[.bool r1,v1_,.bool r3,v3_],.int .i64 r5])∧Kd.V (Kd.int .u64) 91 w' w.heap.size (fun k_=>((P0_1_ k_∨P0_2_ k_)∨w.heap.size≤k_)) v1_ r2∧Kd.V (Kd.int .u64) 91 w' w.heap.size (fun k_=>((P0_1_ k_∨P0_2_ k_)∨w.heap.size≤k_)) v3_ r4∧Below w.heap.size w w':=by
 have al:=Tryz.underlying25
 have am:=Tryz.underlying27
 have an:=Tryz.underlying65
 have ao:=Tryz.underlying67
 have K:=Kp.refl w
 replace K:=K.parV (Kd.V_mono (ok':=fun k=>P0_1_ k) ah (fun _ h=>h))
 clear ah
 replace K:=K.parV (Kd.V_mono (ok':=fun k=>P0_2_ k) ai (fun _ h=>h))
 clear ai
 try simp only[klv]at K
 rw[ratio_made.f]at h
 replace h:=bindA h
 obtain⟨n5,A6,h⟩:=h
 by_cases c_0:n5=0
 ·rw[if_pos c_0]at h
  have aj:(n5==0)=true:=beq_iff_eq.mpr c_0
  have ak:(n5 != 0)=false:=bne_eq_false_iff_eq.mpr c_0
  clear c_0
  simp only[Option.some.injEq,Prod.mk.injEq]at h
  obtain⟨rfl,rfl,rfl,rfl,rfl⟩:=h
  go_enter Tryz.func37,Tryz.ntmps37
  go_wp2_with (first|(refine gd 1 rfl ?_;refine kbk 1 #[.bool ac,.slice af ab.length ag,.slice ad aa.length ae] 27 K.u ?_;clear K;intro g1 W2 K)|(refine gd 2 rfl ?_;refine kbk 2 #[.bool false,.slice none 0 0,.bool false,.slice none 0 0] 67 K.u ?_;clear K;intro g3 W4 K;have ua0:=K.cell 0 rfl 0 rfl;have ub0:=K.cell 0 rfl 1 rfl;have uc0:=K.cell 0 rfl 2 rfl)|(refine gd 7 rfl ?_;clear ua0 ub0 uc0;refine kgl (some 7) rfl rfl Tryz.func98 #[.slice ad aa.length ae] rfl ?_;refine(nat_Len.calls _ _ _ aa n5 _ (K.C 1 rfl) (K.le 1 rfl) A6.out).mono ?_;rintro e W7 ⟨rfl,hb⟩;refine⟨_,rfl,?_⟩;replace K:=K.u.up hb;clear hb)|(refine gs 67 2 9 rfl ?_;refine kstN 1 0 [.bool false,.slice none 0 0,.bool false,.slice none 0 0] K.u rfl ?q9 ?_;(case q9=>intro hc hf;have c0:=hc 0 _ rfl;have f0:=hf 0;have c1:=hc 1 _ rfl;have f1:=hf 1;have c2:=hc 2 _ rfl;have f2:=hf 2;have c3:=hc 3 _ rfl;have f3:=hf 3;clear hc hf;first|(go_simp;done)|(go_simp;rfl));clear K;intro W8 K;simp only[kls,klv,kpl,kss]at K))
  refine bodyPost_ret (results_list (rs:=[.cell 2 67,.tmp 3]) rfl Z1 (.cell g3 67 #[.bool false,.slice none 0 0,.bool false,.slice none 0 0] (0,0) _ rfl (K.u.heap 1 rfl) Tryz.underlying67 rfl X0 (.tmp .nil))) rfl ?_
  exact⟨_,_,rfl,Kd.V_nil _ _ _ _ _,Kd.V_nil _ _ _ _ _,K.u.below⟩
 rw[if_neg c_0]at h
 have aj:(n5==0)=false:=beq_eq_false_iff_ne.mpr c_0
 have ak:(n5 != 0)=true:=bne_iff_ne.mpr c_0
 clear c_0
 replace h:=bindA h
 obtain⟨z12,A13,h⟩:=h
 by_cases c_1:z12=true
 ·subst c_1
  rw[if_pos rfl]at h
  simp only[Option.some.injEq,Prod.mk.injEq]at h
  obtain⟨rfl,rfl,rfl,rfl,rfl⟩:=h
  go_enter Tryz.func37,Tryz.ntmps37
  go_wp2_with (first|(refine gd 1 rfl ?_;refine kbk 1 #[.bool ac,.slice af ab.length ag,.slice ad aa.length ae] 27 K.u ?_;clear K;intro g1 W2 K)|(refine gd 2 rfl ?_;refine kbk 2 #[.bool false,.slice none 0 0,.bool false,.slice none 0 0] 67 K.u ?_;clear K;intro g3 W4 K;have ua0:=K.cell 0 rfl 0 rfl;have ub0:=K.cell 0 rfl 1 rfl;have uc0:=K.cell 0 rfl 2 rfl)|(refine gd 7 rfl ?_;clear ua0 ub0 uc0;refine kgl (some 7) rfl rfl Tryz.func98 #[.slice ad aa.length ae] rfl ?_;refine(nat_Len.calls _ _ _ aa n5 _ (K.C 1 rfl) (K.le 1 rfl) A6.out).mono ?_;rintro e W7 ⟨rfl,hb⟩;refine⟨_,rfl,?_⟩;replace K:=K.u.up hb;clear hb;have ua0:=K.cell 0 rfl 0 rfl;have ub0:=K.cell 0 rfl 1 rfl;have uc0:=K.cell 0 rfl 2 rfl)|(refine gd 4 rfl ?_;clear ua0 ub0 uc0;refine kbk 4 #[.bool false,.slice none 0 0,.bool false,.slice none 0 0] 67 K.u ?_;clear K;intro g8 W9 K)|(refine gs 67 4 17 rfl ?_;refine kstN 2 0 [.bool ac,.slice af ab.length ag,.bool false,.slice ad aa.length ae] K.u rfl ?q11 ?_;(case q11=>intro hc hf;have c0:=hc 0 _ rfl;have f0:=hf 0;have c1:=hc 1 _ rfl;have f1:=hf 1;have c2:=hc 2 _ rfl;have f2:=hf 2;have c3:=hc 3 _ rfl;have f3:=hf 3;clear hc hf;first|(go_simp;done)|(go_simp;rfl));clear K;intro W10 K;simp only[kls,klv,kpl,kss]at K;have ua2:=K.cell 2 rfl 0 rfl;have ub2:=K.cell 2 rfl 1 rfl;have uc2:=K.cell 2 rfl 2 rfl;have ud2:=K.cell 2 rfl 3 rfl)|(refine gd 20 rfl ?_;clear ua2 ub2 uc2 ud2;refine kgl (some 20) rfl rfl Tryz.func51 #[.agg #[.bool ac,.slice af ab.length ag]] rfl ?_;refine(ratio_number_long.calls _ ac _ _ ab true _ (K.C 0 rfl) (K.le 0 rfl) A13.out).mono ?_;rintro e W14 ⟨rfl,hb⟩;refine⟨_,rfl,?_⟩;replace K:=K.u.up hb;clear hb)|(refine gs 67 2 26 rfl ?_;refine kstN 1 0 [.bool false,.slice none 0 0,.bool false,.slice none 0 0] K.u rfl ?q16 ?_;(case q16=>intro hc hf;have c0:=hc 0 _ rfl;have f0:=hf 0;have c1:=hc 1 _ rfl;have f1:=hf 1;have c2:=hc 2 _ rfl;have f2:=hf 2;have c3:=hc 3 _ rfl;have f3:=hf 3;clear hc hf;first|(go_simp;done)|(go_simp;rfl));clear K;intro W15 K;simp only[kls,klv,kpl,kss]at K))
  refine bodyPost_ret (results_list (rs:=[.cell 2 67,.tmp 3]) rfl Z1 (.cell g3 67 #[.bool false,.slice none 0 0,.bool false,.slice none 0 0] (0,0) _ rfl (K.u.heap 1 rfl) Tryz.underlying67 rfl X0 (.tmp .nil))) rfl ?_
  exact⟨_,_,rfl,Kd.V_nil _ _ _ _ _,Kd.V_nil _ _ _ _ _,K.u.below⟩
 replace c_1:=Bool.eq_false_iff.mpr c_1
 subst c_1
 rw[if_neg J0]at h
 replace h:=bindA h
 obtain⟨z15,A16,h⟩:=h
 by_cases c_2:z15=true
 ·subst c_2
  rw[if_pos rfl]at h
  simp only[Option.some.injEq,Prod.mk.injEq]at h
  obtain⟨rfl,rfl,rfl,rfl,rfl⟩:=h
  go_enter Tryz.func37,Tryz.ntmps37
  go_wp2_with (first|(refine gd 1 rfl ?_;refine kbk 1 #[.bool ac,.slice af ab.length ag,.slice ad aa.length ae] 27 K.u ?_;clear K;intro g1 W2 K)|(refine gd 2 rfl ?_;refine kbk 2 #[.bool false,.slice none 0 0,.bool false,.slice none 0 0] 67 K.u ?_;clear K;intro g3 W4 K;have ua0:=K.cell 0 rfl 0 rfl;have ub0:=K.cell 0 rfl 1 rfl;have uc0:=K.cell 0 rfl 2 rfl)|(refine gd 7 rfl ?_;clear ua0 ub0 uc0;refine kgl (some 7) rfl rfl Tryz.func98 #[.slice ad aa.length ae] rfl ?_;refine(nat_Len.calls _ _ _ aa n5 _ (K.C 1 rfl) (K.le 1 rfl) A6.out).mono ?_;rintro e W7 ⟨rfl,hb⟩;refine⟨_,rfl,?_⟩;replace K:=K.u.up hb;clear hb;have ua0:=K.cell 0 rfl 0 rfl;have ub0:=K.cell 0 rfl 1 rfl;have uc0:=K.cell 0 rfl 2 rfl)|(refine gd 4 rfl ?_;clear ua0 ub0 uc0;refine kbk 4 #[.bool false,.slice none 0 0,.bool false,.slice none 0 0] 67 K.u ?_;clear K;intro g8 W9 K)|(refine gs 67 4 17 rfl ?_;refine kstN 2 0 [.bool ac,.slice af ab.length ag,.bool false,.slice ad aa.length ae] K.u rfl ?q11 ?_;(case q11=>intro hc hf;have c0:=hc 0 _ rfl;have f0:=hf 0;have c1:=hc 1 _ rfl;have f1:=hf 1;have c2:=hc 2 _ rfl;have f2:=hf 2;have c3:=hc 3 _ rfl;have f3:=hf 3;clear hc hf;first|(go_simp;done)|(go_simp;rfl));clear K;intro W10 K;simp only[kls,klv,kpl,kss]at K;have ua2:=K.cell 2 rfl 0 rfl;have ub2:=K.cell 2 rfl 1 rfl;have uc2:=K.cell 2 rfl 2 rfl;have ud2:=K.cell 2 rfl 3 rfl)|(refine gd 20 rfl ?_;clear ua2 ub2 uc2 ud2;refine kgl (some 20) rfl rfl Tryz.func51 #[.agg #[.bool ac,.slice af ab.length ag]] rfl ?_;refine(ratio_number_long.calls _ ac _ _ ab false _ (K.C 0 rfl) (K.le 0 rfl) A13.out).mono ?_;rintro e W14 ⟨rfl,hb⟩;refine⟨_,rfl,?_⟩;replace K:=K.u.up hb;clear hb;have ua2:=K.cell 2 rfl 0 rfl;have ub2:=K.cell 2 rfl 1 rfl;have uc2:=K.cell 2 rfl 2 rfl;have ud2:=K.cell 2 rfl 3 rfl)|(refine gd 24 rfl ?_;clear ua2 ub2 uc2 ud2;refine gate_guard F1 ?_;refine kgl (some 24) rfl rfl Tryz.func51 #[.agg #[.bool false,.slice ad aa.length ae]] rfl ?_;refine(ratio_number_long.calls _ false _ _ aa true _ (K.C 1 rfl) (K.le 1 rfl) A16.out).mono ?_;rintro e W17 ⟨rfl,hb⟩;refine⟨_,rfl,?_⟩;replace K:=K.u.up hb;clear hb)|(refine gs 67 2 26 rfl ?_;refine kstN 1 0 [.bool false,.slice none 0 0,.bool false,.slice none 0 0] K.u rfl ?q19 ?_;(case q19=>intro hc hf;have c0:=hc 0 _ rfl;have f0:=hf 0;have c1:=hc 1 _ rfl;have f1:=hf 1;have c2:=hc 2 _ rfl;have f2:=hf 2;have c3:=hc 3 _ rfl;have f3:=hf 3;clear hc hf;first|(go_simp;done)|(go_simp;rfl));clear K;intro W18 K;simp only[kls,klv,kpl,kss]at K))
  refine bodyPost_ret (results_list (rs:=[.cell 2 67,.tmp 3]) rfl Z1 (.cell g3 67 #[.bool false,.slice none 0 0,.bool false,.slice none 0 0] (0,0) _ rfl (K.u.heap 1 rfl) Tryz.underlying67 rfl X0 (.tmp .nil))) rfl ?_
  exact⟨_,_,rfl,Kd.V_nil _ _ _ _ _,Kd.V_nil _ _ _ _ _,K.u.below⟩
 replace c_2:=Bool.eq_false_iff.mpr c_2
 subst c_2
 rw[if_neg J0]at h
 simp only[Option.some.injEq,Prod.mk.injEq]at h
 obtain⟨rfl,rfl,rfl,rfl,rfl⟩:=h
 go_enter Tryz.func37,Tryz.ntmps37
 go_wp2_with (first|(refine gd 1 rfl ?_;refine kbk 1 #[.bool ac,.slice af ab.length ag,.slice ad aa.length ae] 27 K.u ?_;clear K;intro g1 W2 K)|(refine gd 2 rfl ?_;refine kbk 2 #[.bool false,.slice none 0 0,.bool false,.slice none 0 0] 67 K.u ?_;clear K;intro g3 W4 K;have ua0:=K.cell 0 rfl 0 rfl;have ub0:=K.cell 0 rfl 1 rfl;have uc0:=K.cell 0 rfl 2 rfl)|(refine gd 7 rfl ?_;clear ua0 ub0 uc0;refine kgl (some 7) rfl rfl Tryz.func98 #[.slice ad aa.length ae] rfl ?_;refine(nat_Len.calls _ _ _ aa n5 _ (K.C 1 rfl) (K.le 1 rfl) A6.out).mono ?_;rintro e W7 ⟨rfl,hb⟩;refine⟨_,rfl,?_⟩;replace K:=K.u.up hb;clear hb;have ua0:=K.cell 0 rfl 0 rfl;have ub0:=K.cell 0 rfl 1 rfl;have uc0:=K.cell 0 rfl 2 rfl)|(refine gd 4 rfl ?_;clear ua0 ub0 uc0;refine kbk 4 #[.bool false,.slice none 0 0,.bool false,.slice none 0 0] 67 K.u ?_;clear K;intro g8 W9 K)|(refine gs 67 4 17 rfl ?_;refine kstN 2 0 [.bool ac,.slice af ab.length ag,.bool false,.slice ad aa.length ae] K.u rfl ?q11 ?_;(case q11=>intro hc hf;have c0:=hc 0 _ rfl;have f0:=hf 0;have c1:=hc 1 _ rfl;have f1:=hf 1;have c2:=hc 2 _ rfl;have f2:=hf 2;have c3:=hc 3 _ rfl;have f3:=hf 3;clear hc hf;first|(go_simp;done)|(go_simp;rfl));clear K;intro W10 K;simp only[kls,klv,kpl,kss]at K;have ua2:=K.cell 2 rfl 0 rfl;have ub2:=K.cell 2 rfl 1 rfl;have uc2:=K.cell 2 rfl 2 rfl;have ud2:=K.cell 2 rfl 3 rfl)|(refine gd 20 rfl ?_;clear ua2 ub2 uc2 ud2;refine kgl (some 20) rfl rfl Tryz.func51 #[.agg #[.bool ac,.slice af ab.length ag]] rfl ?_;refine(ratio_number_long.calls _ ac _ _ ab false _ (K.C 0 rfl) (K.le 0 rfl) A13.out).mono ?_;rintro e W14 ⟨rfl,hb⟩;refine⟨_,rfl,?_⟩;replace K:=K.u.up hb;clear hb;have ua2:=K.cell 2 rfl 0 rfl;have ub2:=K.cell 2 rfl 1 rfl;have uc2:=K.cell 2 rfl 2 rfl;have ud2:=K.cell 2 rfl 3 rfl)|(refine gd 24 rfl ?_;clear ua2 ub2 uc2 ud2;refine gate_guard F1 ?_;refine kgl (some 24) rfl rfl Tryz.func51 #[.agg #[.bool false,.slice ad aa.length ae]] rfl ?_;refine(ratio_number_long.calls _ false _ _ aa false _ (K.C 1 rfl) (K.le 1 rfl) A16.out).mono ?_;rintro e W17 ⟨rfl,hb⟩;refine⟨_,rfl,?_⟩;replace K:=K.u.up hb;clear hb;have ua2:=K.cell 2 rfl 0 rfl;have ub2:=K.cell 2 rfl 1 rfl;have uc2:=K.cell 2 rfl 2 rfl;have ud2:=K.cell 2 rfl 3 rfl)|(refine gs 67 2 27 rfl ?_;clear ua2 ub2 uc2 ud2;refine kstN 1 0 [.bool ac,.slice af ab.length ag,.bool false,.slice ad aa.length ae] K.u rfl ?q19 ?_;(case q19=>intro hc hf;have c0:=hc 0 _ rfl;have f0:=hf 0;have c1:=hc 1 _ rfl;have f1:=hf 1;have c2:=hc 2 _ rfl;have f2:=hf 2;have c3:=hc 3 _ rfl;have f3:=hf 3;clear hc hf;first|(go_simp;done)|(go_simp;rfl));clear K;intro W18 K;simp only[kls,klv,kpl,kss]at K))
 refine bodyPost_ret (results_list (rs:=[.cell 2 67,.tmp 3]) rfl Z1 (.cell g3 67 #[.bool ac,.slice af ab.length ag,.bool false,.slice ad aa.length ae] (0,0) _ rfl (K.u.heap 1 rfl) Tryz.underlying67 rfl X0 (.tmp .nil))) rfl ?_
 exact⟨_,_,rfl,K.u.hand 0 rfl (fun k_ h=>h.elim (fun h=>.inl (.inl h)) .inr),K.u.hand 1 rfl (fun k_ h=>h.elim (fun h=>.inl (.inr h)) .inr),K.u.below⟩
def whole_signed.f (l0:List Int) (a1:Bool):Option (List Int×Bool):=if a1=true then((whole_amount_null.f l0).bind fun t221=>(some (l0,!t221))) else(some (l0,false))
theorem whole_signed.calls (P0_:Nat→Prop) (A0:Option Addr) (c0:Nat) (l0:List Int) (a1:Bool) (r1:List Int) (r2:Bool) (w:World) (hs0:Kd.V (Kd.int .u64) 91 w w.heap.size (fun k_=>P0_ k_) (.slice A0 l0.length c0) l0) (h:whole_signed.f l0 a1=some (r1,r2)) :
  Calls Tryz.prog 80 #[.slice A0 l0.length c0,.bool a1] w fun e w'=>∃v0_:Value,e=.returned (.agg #[v0_,.bool r2])∧Kd.V (Kd.int .u64) 91 w' w.heap.size (fun k_=>(P0_ k_∨w.heap.size≤k_)) v0_ r1∧Below w.heap.size w w':=by
 have aa:=Tryz.underlying86
 have K:=Kp.refl w
 replace K:=K.parV (Kd.V_mono (ok':=fun k=>P0_ k) hs0 (fun _ h=>h))
 clear hs0
 try simp only[klv]at K
 rw[whole_signed.f]at h
 by_cases c_0:a1=true
 ·subst c_0
  rw[if_pos rfl]at h
  replace h:=bindA h
  obtain⟨z3,A4,h⟩:=h
  simp only[Option.some.injEq,Prod.mk.injEq]at h
  obtain⟨rfl,rfl⟩:=h
  go_enter Tryz.func80,Tryz.ntmps80
  go_wp2_with (first|(refine gd 4 rfl ?_;refine kbk 4 #[.slice none 0 0,.bool false] 86 K.u ?_;clear K;intro g1 W2 K)|(refine gd 9 rfl ?_;refine gate_guard F1 ?_;refine kgl (some 9) rfl rfl Tryz.func86 #[.slice A0 l0.length c0] rfl ?_;refine(whole_amount_null.calls _ _ l0 z3 _ (K.C 0 rfl) (K.le 0 rfl) A4.out).mono ?_;rintro e W5 ⟨rfl,hb⟩;refine⟨_,rfl,?_⟩;replace K:=K.u.up hb.below;clear hb)|(refine gs 86 4 12 rfl ?_;refine ks2 0 (.slice A0 l0.length c0) (.bool !z3) K.u rfl ?_;clear K;intro W6 K;simp only[kls,klv]at K))
  refine bodyPost_ret (results_single rfl (.cell g1 86 #[.slice A0 l0.length c0,.bool !z3] (0,0) _ rfl (K.u.heap 0 rfl) Tryz.underlying86 rfl X0 .nil)) rfl ?_
  exact⟨_,rfl,K.u.hand 0 rfl (fun k_ h=>h.elim (fun h=>.inl h) .inr),K.u.below⟩
 replace c_0:=Bool.eq_false_iff.mpr c_0
 subst c_0
 rw[if_neg J0]at h
 simp only[Option.some.injEq,Prod.mk.injEq]at h
 obtain⟨rfl,rfl⟩:=h
 go_enter Tryz.func80,Tryz.ntmps80
 go_wp2_with (first|(refine gd 4 rfl ?_;refine kbk 4 #[.slice none 0 0,.bool false] 86 K.u ?_;clear K;intro g1 W2 K)|(refine gs 86 4 12 rfl ?_;refine ks2 0 (.slice A0 l0.length c0) (.bool false) K.u rfl ?_;clear K;intro W3 K;simp only[kls,klv]at K))
 refine bodyPost_ret (results_single rfl (.cell g1 86 #[.slice A0 l0.length c0,.bool false] (0,0) _ rfl (K.u.heap 0 rfl) Tryz.underlying86 rfl X0 .nil)) rfl ?_
 exact⟨_,rfl,K.u.hand 0 rfl (fun k_ h=>h.elim (fun h=>.inl h) .inr),K.u.below⟩
def whole_number_out.f (l0_0:List Int) (a0_1:Bool):Option (Bool×List Int):=(api_Nat_uint64.f l0_0).bind fun t224=>(some (a0_1,t224))
theorem whole_number_out.calls (ai:Option Addr) (aj:Nat) (ae:List Int) (af:Bool) (r1:Bool) (r2:List Int) (w:World) (ak:Kd.C (Kd.int .u64) w ai ae.length ae) (al:ae.length≤aj) (h:whole_number_out.f ae af=some (r1,r2)) :
  Calls Tryz.prog 91 #[.agg #[.slice ai ae.length aj,.bool af]] w fun e w'=>∃v1_:Value,e=.returned (.agg #[.bool r1,v1_])∧Kd.R (Kd.int .u64) 91 w' w.heap.size (fun _=>True) v1_ r2∧Below w.heap.size w w':=by
 have aA:=Tryz.underlying86
 have aB:=Tryz.underlying25
 have ao:=Aside0.mk ak
 have ap:=Aside0.mk al
 clear ak al
 have HB:=Aside0.mk (Below.refl w.heap.size w)
 have H:((api_Nat_uint64.f ae).bind fun ag=>(some (af,ag)))=some (r1,r2):=h
 clear h
 replace H:=Option.bind_eq_some_iff.mp H
 obtain⟨ag,A20,H⟩:=H
 replace H:(some (af,ag))=some (r1,r2):=H
 have A2:=Aside0.mk A20
 clear A20
 simp only[Option.some.injEq,Prod.mk.injEq]at H
 obtain⟨rfl,rfl⟩:=H
 go_enter Tryz.func91,Tryz.ntmps91
 try go_wp2_with (first|(refine gd 1 rfl ?_;refine kbe 1 #[.slice ai ae.length aj,.bool af] 86 ?_;intro am hg w3 hbox hb;have aa:=Aside0.mk (hbox);have ay:=kbz hg HB;have aq:=kbz hg HB;replace HB:=kbs HB hb;clear hb hbox hg)|(refine gd 2 rfl ?_;refine kbe 2 #[.bool false,.slice none 0 0] 25 ?_;intro ad hg w4 hbox hb;have ac:=Aside0.mk (hbox);have az:=kbz hg HB;have ar:=kbz hg HB;replace HB:=kbs HB hb;have ab:=knl hg aa;have ah:=kng hg aa;replace aa:=kbb aa hb;clear hb hbox hg))
 replace aa:=Aside0.mk (blk_drew aa.out);replace ac:=Aside0.mk (blk_drew ac.out);replace HB:=Aside0.mk (below_drew1 HB.out)
 refine start_ (n:=7) (S:=fun w'=>w'.cell? ⟨am,0,none⟩=some (.slice ai ae.length aj)∧w'.cell? ⟨am,1,none⟩=some (.bool af)) (ds:=[]) (bm_ 7 0) X0 rfl rfl ⟨(blk_cell aa.out 0).trans rfl,(blk_cell aa.out 1).trans rfl⟩ (fun hHeld=>?_)
 generalize w4.drew=w5 at aa ac HB hHeld ⊢
 refine pu_ 0 3 ?_ (bm_ 7 1) rfl rfl X0 (fun _ _ _ h=>h) F1 ?_ ?_ ?_ ?_
 rotate_left
 ·intro w'
  go_simp
  with_reducible rfl
 rotate_left
 ·simp only[Act.put,kss,i64_w,i32_w]
  rfl
 refine pu_ 2 5 ?_ (bm_ 7 5) rfl rfl X0 (fun _ _ _ h=>h) F1 ?_ ?_ ?_ ?_
 rotate_left
 ·intro w'
  go_simp
  with_reducible rfl
 rotate_left
 ·simp only[Act.put,kss,i64_w,i32_w]
  rfl
 refine tk_ 1 4 ?_ (bm_ 7 7) rfl rfl X0 (fun _ _ _ h=>h) F1 ?_ hHeld ?_ ?_ ?_
 rotate_left
 ·rintro w' ⟨s0,s1⟩
  go_simp
  with_reducible rfl
 rotate_left
 ·simp only[Act.put,kss,i64_w,i32_w]
  rfl
 refine tk_ 3 6 ?_ (bm_ 7 15) rfl rfl X0 (fun _ _ _ h=>h) F1 ?_ hHeld ?_ ?_ ?_
 rotate_left
 ·rintro w' ⟨s0,s1⟩
  go_simp
  with_reducible rfl
 rotate_left
 ·simp only[Act.put,kss,i64_w,i32_w]
  rfl
 refine one_ (i:=4) (N:=some 7) (bm_ 7 31) rfl rfl X0 J0 (fun K hK=>?_)
 refine kgo Tryz.func161 #[.slice ai ae.length aj] F1 rfl rfl ?_
 with_reducible refine(api_Nat_uint64.calls _ _ ae ag _ ?side1 ?side2 A2.out).mono ?_
 (case side1=>repeat (first|exact(Kd.C_below ao.out HB.out)|(with_reducible refine Kd.C_alloc ?_ _)|(with_reducible refine Kd.C_drewN ?_ _)|(with_reducible refine Kd.C_drew ?_)))
 (case side2=>exact ap.out)
 rintro e w6 ⟨aC,rfl,ho0,hb⟩
 refine⟨_,rfl,?_⟩
 have an:=Aside0.mk (Kd.R_lower ho0 (below_size (khu HB.out)));replace aa:=kbb aa hb;replace ac:=kbb ac hb;replace HB:=kbs HB hb
 (try clear hb);(try clear hb2);(try clear hk);(try clear hi);(try clear ho0)
 obtain⟨Ao7,co7,eo7⟩:=Kd.R_slice an.out
 (first|subst eo7|(injection eo7 with f1_ f2_ f3_;have f4_:=f1_.symm;have f5_:=f3_.symm;clear f1_ f2_ f3_;subst f4_;subst f5_))
 refine hK.out _ _ ⟨(blk_cell aa.out 0).trans rfl,(blk_cell aa.out 1).trans rfl⟩ (fun hHeld=>?_)
 clear hK K
 refine norm_ (a':=?_) ?_ ?_
 rotate_left
 ·show Act.put _ (some 7) _=_
  simp only[Act.put,kss,i64_w,i32_w]
  rfl
 refine pu_ 5 8 ?_ (bm_ 7 63) rfl rfl X0 (fun _ _ _ h=>h) F1 ?_ ?_ ?_ ?_
 rotate_left
 ·intro w'
  go_simp
  with_reducible rfl
 rotate_left
 ·simp only[Act.put,kss,i64_w,i32_w]
  rfl
 refine one_ (i:=6) (N:=none) (bm_ 7 127) rfl rfl X0 J0 (fun K hK=>?_)
 have hs8:w6.cell? ⟨ad,0,none⟩=some (.bool false):=(blk_cell ac.out 0).trans rfl
 have aD:=blk_frozen ac.out 0
 have au:=ab.out
 have av:=ah.out
 have hs9:w6.cell? ⟨ad,1,none⟩=some (.slice none 0 0):=(blk_cell ac.out 1).trans rfl
 have aE:=blk_frozen ac.out 1
 have aw:=ab.out
 have ax:=ah.out
 refine skip_ (w1:=?_) F1 rfl ?_ ?_
 rotate_left
 ·go_simp
  rfl
 refine hK.out _ _ ⟨((cell_far (p:=⟨ad,_,none⟩) ab.out _).trans (((cell_far (p:=⟨ad,_,none⟩) ab.out _).trans (hHeld.1)))),((cell_far (p:=⟨ad,_,none⟩) ab.out _).trans (((cell_far (p:=⟨ad,_,none⟩) ab.out _).trans (hHeld.2))))⟩ (fun hHeld=>?_)
 clear hK K
 refine done_ X0 ?_
 try go_wp2
 refine bodyPost_ret (results_cell_row rfl _ _ ad 25 #[.bool af,.slice Ao7 ag.length co7] (0,0) _ rfl (kpu #[.bool af,.slice none 0 0] 1 (kpu #[.bool false,.slice none 0 0] 0 (kbu ac.out))) Tryz.underlying25 rfl X0) rfl ?_
 exact⟨_,B0,by(with_reducible repeat (first|apply Kd.R_alloc|apply Kd.R_drewN|apply Kd.R_drew));exact Kd.R_mono (Kd.R_far (p:=⟨ad,1,none⟩) (Kd.R_far (p:=⟨ad,0,none⟩) (Kd.R_types an.out ac.out J0) (fun _ hk=>hk.2) (.bool af)) (fun _ hk=>hk.2) (.slice Ao7 ag.length co7)) (fun _ hk=>trivial),by repeat (first|(with_reducible first|exact HB.out|apply below_alloc|apply pw_below_drewN|apply below_drew1|refine below_set ?_ aq.out|refine below_set ?_ ar.out)|exact HB.out)⟩
def whole_number_told.f (l0_0:List Int) (a0_1:Bool):Option (Bool×List Int×Int):=(whole_number_long.f l0_0 a0_1).bind fun t229=>(if t229=true then(some (false,([]:List Int),5)) else((whole_number_out.f l0_0 a0_1).bind fun bt230=>(some (bt230.1,bt230.2,0))))
theorem whole_number_told.calls (ac:Option Addr) (ad:Nat) (aa:List Int) (ab:Bool) (r1:Bool) (r2:List Int) (r3:Int) (w:World) (ae:Kd.C (Kd.int .u64) w ac aa.length aa) (af:aa.length≤ad) (h:whole_number_told.f aa ab=some (r1,r2,r3)) :
  Calls Tryz.prog 81 #[.agg #[.slice ac aa.length ad,.bool ab]] w fun e w'=>∃v1_:Value,e=.returned (.tuple #[.agg #[.bool r1,v1_],.int .i64 r3])∧Kd.R (Kd.int .u64) 91 w' w.heap.size (fun _=>True) v1_ r2∧Below w.heap.size w w':=by
 have ah:=Tryz.underlying25
 have ai:=Tryz.underlying86
 have K:=Kp.refl w
 replace K:=K.parV (Kd.V_mono (ok':=fun _=>True) (Kd.V_mk (e:=91) (base:=0) af (Kd.C_F (Kd.heap_int .u64) ae)) (fun _ h=>trivial))
 clear ae af
 try simp only[klv]at K
 rw[whole_number_told.f]at h
 replace h:=bindA h
 obtain⟨z5,A6,h⟩:=h
 by_cases c_0:z5=true
 ·subst c_0
  rw[if_pos rfl]at h
  simp only[Option.some.injEq,Prod.mk.injEq]at h
  obtain⟨rfl,rfl,rfl⟩:=h
  go_enter Tryz.func81,Tryz.ntmps81
  go_wp2_with (first|(refine gd 1 rfl ?_;refine kbk 1 #[.slice ac aa.length ad,.bool ab] 86 K.u ?_;clear K;intro g1 W2 K)|(refine gd 2 rfl ?_;refine kbk 2 #[.bool false,.slice none 0 0] 25 K.u ?_;clear K;intro g3 W4 K;obtain⟨ua0,ub0⟩:=K.cell2 0 rfl)|(refine gd 5 rfl ?_;clear ua0 ub0;refine kgl (some 5) rfl rfl Tryz.func85 #[.agg #[.slice ac aa.length ad,.bool ab]] rfl ?_;refine(whole_number_long.calls _ _ aa ab true _ (K.C 0 rfl) (K.le 0 rfl) A6.out).mono ?_;rintro e W7 ⟨rfl,hb⟩;refine⟨_,rfl,?_⟩;replace K:=K.u.up hb;clear hb)|(refine gs 25 2 6 rfl ?_;refine ks2 1 (.bool false) (.slice none 0 0) K.u rfl ?_;clear K;intro W8 K;simp only[kls,klv]at K))
  refine bodyPost_ret (results_list (rs:=[.cell 2 25,.tmp 3]) rfl Z1 (.cell g3 25 #[.bool false,.slice none 0 0] (0,0) _ rfl (K.u.heap 1 rfl) Tryz.underlying25 rfl X0 (.tmp .nil))) rfl ?_
  exact⟨_,rfl,Kd.R_nil _ _ _ _ _,K.u.below⟩
 replace c_0:=Bool.eq_false_iff.mpr c_0
 subst c_0
 rw[if_neg J0]at h
 replace h:=bindA h
 obtain⟨⟨z8,x9⟩,A10,h⟩:=h
 dsimp only at h
 simp only[Option.some.injEq,Prod.mk.injEq]at h
 obtain⟨rfl,rfl,rfl⟩:=h
 go_enter Tryz.func81,Tryz.ntmps81
 go_wp2_with (first|(refine gd 1 rfl ?_;refine kbk 1 #[.slice ac aa.length ad,.bool ab] 86 K.u ?_;clear K;intro g1 W2 K)|(refine gd 2 rfl ?_;refine kbk 2 #[.bool false,.slice none 0 0] 25 K.u ?_;clear K;intro g3 W4 K;obtain⟨ua0,ub0⟩:=K.cell2 0 rfl)|(refine gd 5 rfl ?_;clear ua0 ub0;refine kgl (some 5) rfl rfl Tryz.func85 #[.agg #[.slice ac aa.length ad,.bool ab]] rfl ?_;refine(whole_number_long.calls _ _ aa ab false _ (K.C 0 rfl) (K.le 0 rfl) A6.out).mono ?_;rintro e W7 ⟨rfl,hb⟩;refine⟨_,rfl,?_⟩;replace K:=K.u.up hb;clear hb;obtain⟨ua0,ub0⟩:=K.cell2 0 rfl)|(refine gd 8 rfl ?_;clear ua0 ub0;refine kgl (some 8) rfl rfl Tryz.func91 #[.agg #[.slice ac aa.length ad,.bool ab]] rfl ?_;refine(whole_number_out.calls _ _ aa ab z8 x9 _ (K.C 0 rfl) (K.le 0 rfl) A10.out).mono ?_;rintro e W13 ⟨v11,rfl,ag,hb⟩;refine⟨_,rfl,?_⟩;replace K:=K.u.addRE hb ag;clear hb ag;obtain⟨P14,c15,e16⟩:=K.slice 1 rfl;subst e16)|(refine gs 25 2 8 rfl ?_;refine ks2 1 (.bool z8) (.slice P14 x9.length c15) K.u rfl ?_;clear K;intro W17 K;simp only[kls,klv]at K))
 refine bodyPost_ret (results_list (rs:=[.cell 2 25,.tmp 3]) rfl Z1 (.cell g3 25 #[.bool z8,.slice P14 x9.length c15] (0,0) _ rfl (K.u.heap 1 rfl) Tryz.underlying25 rfl X0 (.tmp .nil))) rfl ?_
 exact⟨_,rfl,K.u.R 0 rfl,K.u.below⟩
def bits_Mul64.f (a0:Int) (a1:Int):Option (Int×Int):=some (IntKind.u64.wrap ((IntKind.u64.wrap ((IntKind.u64.wrap ((a0/4294967296)*(a1/4294967296)))+((IntKind.u64.wrap ((IntKind.u64.wrap ((a0/4294967296)*(Go.bits .and .u64 a1 4294967295)))+((IntKind.u64.wrap ((Go.bits .and .u64 a0 4294967295)*(Go.bits .and .u64 a1 4294967295)))/4294967296)))/4294967296)))+((IntKind.u64.wrap ((Go.bits .and .u64 (IntKind.u64.wrap ((IntKind.u64.wrap ((a0/4294967296)*(Go.bits .and .u64 a1 4294967295)))+((IntKind.u64.wrap ((Go.bits .and .u64 a0 4294967295)*(Go.bits .and .u64 a1 4294967295)))/4294967296))) 4294967295)+(IntKind.u64.wrap ((Go.bits .and .u64 a0 4294967295)*(a1/4294967296)))))/4294967296)),IntKind.u64.wrap (a0*a1))
theorem bits_Mul64.calls (a0:Int) (a1:Int) (r1:Int) (r2:Int) (w:World) (h:bits_Mul64.f a0 a1=some (r1,r2)) :
  Calls Tryz.prog 154 #[.int .u64 a0,.int .u64 a1] w fun e w'=>e=.returned (.tuple #[.int .u64 r1,.int .u64 r2])∧Drawn0 w w':=by
 have H:(some (IntKind.u64.wrap ((IntKind.u64.wrap ((IntKind.u64.wrap ((a0/4294967296)*(a1/4294967296)))+((IntKind.u64.wrap ((IntKind.u64.wrap ((a0/4294967296)*(Go.bits .and .u64 a1 4294967295)))+((IntKind.u64.wrap ((Go.bits .and .u64 a0 4294967295)*(Go.bits .and .u64 a1 4294967295)))/4294967296)))/4294967296)))+((IntKind.u64.wrap ((Go.bits .and .u64 (IntKind.u64.wrap ((IntKind.u64.wrap ((a0/4294967296)*(Go.bits .and .u64 a1 4294967295)))+((IntKind.u64.wrap ((Go.bits .and .u64 a0 4294967295)*(Go.bits .and .u64 a1 4294967295)))/4294967296))) 4294967295)+(IntKind.u64.wrap ((Go.bits .and .u64 a0 4294967295)*(a1/4294967296)))))/4294967296)),IntKind.u64.wrap (a0*a1)))=some (r1,r2):=h
 clear h
 simp only[Option.some.injEq,Prod.mk.injEq]at H
 obtain⟨rfl,rfl⟩:=H
 go_enter Tryz.func154,Tryz.ntmps154
 go_wp2
 go_ret2
 exact⟨Y0,Y1⟩
def whole_amount_up.l0:Nat→Int→List Int→List Int→Int→Int→Option (List Int)
 | 0,_,_,_,_,_=>none
 | k+1,x1,x5,x12,x13,x14=>if x14<x13 then(if 0≤x14 then(if x14<(x12.length:Int) then(if x14<(x5.length:Int) then(if 0≤x1 then((some (x5.set (x14:Int).toNat (Go.bits .or .u64 (rd x5 x14) (shl .u64 (rd x12 x14) x1)):List Int)).bind fun y239=>(if x1>0 then(if 0≤(IntKind.u64.wrap (64-x1)) then(if 0≤(wrap64 (x14+1)) then(if(wrap64 (x14+1))<(x5.length:Int) then(whole_amount_up.l0 k x1 (y239.set ((wrap64 (x14+1)):Int).toNat (shr .u64 (rd x12 x14) (IntKind.u64.wrap (64-x1)))) x12 x13 (wrap64 (x14+1))) else(none)) else(none)) else(none)) else(whole_amount_up.l0 k x1 y239 x12 x13 (wrap64 (x14+1))))) else(none)) else(none)) else(none)) else(none)) else(some x5)
def whole_amount_up.f (k:Nat) (l0:List Int) (a1:Int):Option (List Int):=if 0≤(wrap64 ((l0.length:Int)+1)) then(if(wrap64 ((l0.length:Int)+1):Int).toNat≤35184372088832 then(whole_amount_up.l0 k a1 (List.replicate (wrap64 ((l0.length:Int)+1):Int).toNat 0) l0 (l0.length:Int) 0) else(none)) else(none)
theorem whole_amount_up.mono_l:∀k,(∀y0 y1 y2 y3 y4,LeO (whole_amount_up.l0 k y0 y1 y2 y3 y4) (whole_amount_up.l0 (k+1) y0 y1 y2 y3 y4))
 | 0=>fun _ _ _ _ _ r h=>by simp[whole_amount_up.l0]at h
 | k+1=>by
  have ih0:=whole_amount_up.mono_l k
  intro y0 y1 y2 y3 y4
  unfold whole_amount_up.l0
  repeat' first
  | (with_reducible exact ih0 _ _ _ _ _)
  | (with_reducible exact LeO.refl _)
  | (with_reducible exact LeO.none _)
  | (with_reducible refine LeO.ite ?_ ?_)
  | (with_reducible refine LeO.bind ?_ (fun _=>?_))
  | exact ih0 _ _ _ _ _
  | exact LeO.none _
  | refine LeO.ite ?_ ?_
  | refine LeO.bind ?_ (fun _=>?_)
theorem whole_amount_up.mono:∀a0 a1 k,LeO (whole_amount_up.f k a0 a1) (whole_amount_up.f (k+1) a0 a1):=by
 intro a0 a1 k
 have ih0:=whole_amount_up.mono_l k
 unfold whole_amount_up.f
 repeat' first
   | (with_reducible exact ih0 _ _ _ _ _)
   | (with_reducible exact LeO.refl _)
   | (with_reducible exact LeO.none _)
   | (with_reducible refine LeO.ite ?_ ?_)
   | (with_reducible refine LeO.bind ?_ (fun _=>?_))
   | exact ih0 _ _ _ _ _
   | exact LeO.none _
   | refine LeO.ite ?_ ?_
   | refine LeO.bind ?_ (fun _=>?_)
theorem whole_amount_up.calls (k:Nat) (A0:Option Addr) (c0:Nat) (l0:List Int) (a1:Int) (r:List Int) (w:World) (hr0:Kd.C (Kd.int .u64) w A0 l0.length l0) (hc0:l0.length≤c0) (h:whole_amount_up.f k l0 a1=some r) :
  Calls Tryz.prog 226 #[.slice A0 l0.length c0,.int .u64 a1] w fun e w'=>∃v0_:Value,e=.returned (v0_)∧Kd.R (Kd.int .u64) 91 w' w.heap.size (fun _=>True) v0_ r∧Below w.heap.size w w':=by
 have HR0:=Aside0.mk hr0
 have HC0:=Aside0.mk hc0
 clear hr0 hc0
 have HB:=Aside0.mk (Below.refl w.heap.size w)
 have H:(if 0≤(wrap64 ((l0.length:Int)+1)) then(if(wrap64 ((l0.length:Int)+1):Int).toNat≤35184372088832 then(whole_amount_up.l0 k a1 (List.replicate (wrap64 ((l0.length:Int)+1):Int).toNat 0) l0 (l0.length:Int) 0) else(none)) else(none))=some r:=h
 clear h
 obtain⟨ji3,hji3⟩:∃j_:Int,(wrap64 ((l0.length:Int)+1))=j_:=⟨_,rfl⟩
 replace H:(if 0≤(ji3) then(if(ji3:Int).toNat≤35184372088832 then(whole_amount_up.l0 k a1 (List.replicate (ji3:Int).toNat 0) l0 (l0.length:Int) 0) else(none)) else(none))=some r:=by first|(rw[hji3]at H;exact H)|(simp only[hji3]at H ⊢;exact H)
 have bl:(IntKind.i64.wrap ((l0.length:Int)+1))=ji3:=(i64_w _).trans hji3
 by_cases c4:0≤(ji3)
 ·rw [if_pos c4]at H
  have aU:=eq_true c4
  have aV:decide (0≤(ji3))=true:=decide_eq_true c4
  clear c4
  by_cases c5:(ji3:Int).toNat≤35184372088832
  ·rw [if_pos c5]at H
   have aW:=eq_true c5
   have aX:decide ((ji3:Int).toNat≤35184372088832)=true:=decide_eq_true c5
   clear c5
   obtain⟨aL,ao⟩:∃y_:List Int,y_=(List.replicate (ji3:Int).toNat 0):=⟨_,rfl⟩
   replace H:(whole_amount_up.l0 k a1 aL l0 (l0.length:Int) 0)=some r:=by first|(rw[ao];with_reducible exact H)|(have H2_:=(Option.bind_some _ _).symm.trans H;rw[ao];with_reducible exact H2_)|(have H2_:=(Option.bind_some _ _).symm.trans H;with_reducible exact H2_)|with_reducible exact H|(rw[ao];exact H)|exact H
   have aI:=Aside0.mk ao
   clear ao
   have H':=Aside0.mk H
   clear H
   go_enter Tryz.func226,Tryz.ntmps226
   go_wp2_with (first|(refine gd 11 rfl ?_;refine Kd.R_make (Kd.int .u64) _ 91 rfl (N:=11) rfl 22 _ _ rfl ji3 rfl rfl Tryz.underlying22 (.int .u64 0) 8 info91 rfl J0 Z0 0 (ok:=fun _=>True) (okp:=fun _=>True) rfl (fun _ hk=>hk) trivial (of_decide_eq_true ‹_›) (Nat.le_trans (Nat.mul_le_mul_right _ (of_decide_eq_true ‹_›:ji3.toNat≤35184372088832)) Z0) (Below.refl _ _) (Nat.le_refl _) ?_;intro aY w6 ho7 hb hg_ hnew_;clear hg_ hnew_;(first|rw[←aI.out]at ho7|(simp only[Int.reduceToNat]at ho7;rw[←aI.out]at ho7));have aP:=Aside0.mk (Kd.R_lower ho7 (below_size (khu HB.out)));replace HB:=kbs HB hb;clear hb ho7))
   go_loopg [14] k (fun kq v14 w'=>∃(ab:List Int) (aa:Int),v14=.int .i64 aa∧Aside0 (whole_amount_up.l0 kq a1 ab l0 (l0.length:Int) aa=some r)∧Aside0 (kq≤k)∧Aside0 (Kd.R (Kd.int .u64) 91 w' w.heap.size (fun _=>True) aY ab)∧Aside0 (Below w.heap.size w w'))
   case atStart=>exact⟨(aL),(0),Y0,H',⟨Nat.le_refl _⟩,⟨kru aP.out⟩,⟨khu HB.out⟩⟩
   case round =>
    clear H'
    try clear c2
    try clear p2
    try clear c4
    try clear aU
    try clear aV
    try clear c5
    try clear aW
    try clear aX
    try clear p6
    obtain⟨ab,aa,rfl,HA,HK1,ac,HB⟩:=hrel
    cases gk with
    | zero=>exact absurd HA.out (by simp[whole_amount_up.l0])
    | succ k1 =>
     have H:=HA.out
     clear HA
     simp only[whole_amount_up.l0]at H
     by_cases c8:aa<(l0.length:Int)
     ·rw [if_pos c8]at H
      have aZ:decide (aa<(l0.length:Int))=true:=decide_eq_true c8
      clear c8
      by_cases c9:0≤aa
      ·rw [if_pos c9]at H
       have bx:decide (0≤aa)=true:=decide_eq_true c9
       clear c9
       by_cases c10:aa<(l0.length:Int)
       ·rw [if_pos c10]at H
        have bn:decide (aa<(l0.length:Int))=true:=decide_eq_true c10
        clear c10
        by_cases c11:aa<(ab.length:Int)
        ·rw [if_pos c11]at H
         have bo:decide (aa<(ab.length:Int))=true:=decide_eq_true c11
         clear c11
         by_cases c12:0≤a1
         ·rw [if_pos c12]at H
          have bp:=eq_true c12
          have bq:decide (0≤a1)=true:=decide_eq_true c12
          clear c12
          obtain⟨ah,au⟩:∃j_:Int,(shl .u64 (rd l0 aa) a1)=j_:=⟨_,rfl⟩
          replace H:((some (ab.set (aa:Int).toNat (Go.bits .or .u64 (rd ab aa) (ah)):List Int)).bind fun af=>(if a1>0 then(if 0≤(IntKind.u64.wrap (64-a1)) then(if 0≤(wrap64 (aa+1)) then(if(wrap64 (aa+1))<(ab.length:Int) then(whole_amount_up.l0 k1 a1 (af.set ((wrap64 (aa+1)):Int).toNat (shr .u64 (rd l0 aa) (IntKind.u64.wrap (64-a1)))) l0 (l0.length:Int) (wrap64 (aa+1))) else(none)) else(none)) else(none)) else(whole_amount_up.l0 k1 a1 af l0 (l0.length:Int) (wrap64 (aa+1)))))=some r:=by first|(rw[au]at H;exact H)|(simp only[au]at H ⊢;exact H)
          have hji13_:(IntKind.u64.wrap ((rd l0 aa)*2^min a1.toNat 64))=ah:=au
          have bg:a1≤64→(IntKind.u64.wrap ((rd l0 aa)*2^a1.toNat))=ah:=shl_small au
          obtain⟨af,ap⟩:∃y_:List Int,y_=(ab.set (aa:Int).toNat (Go.bits .or .u64 (rd ab aa) (ah))):=⟨_,rfl⟩
          replace H:(if a1>0 then(if 0≤(IntKind.u64.wrap (64-a1)) then(if 0≤(wrap64 (aa+1)) then(if(wrap64 (aa+1))<(ab.length:Int) then(whole_amount_up.l0 k1 a1 (af.set ((wrap64 (aa+1)):Int).toNat (shr .u64 (rd l0 aa) (IntKind.u64.wrap (64-a1)))) l0 (l0.length:Int) (wrap64 (aa+1))) else(none)) else(none)) else(none)) else(whole_amount_up.l0 k1 a1 af l0 (l0.length:Int) (wrap64 (aa+1))))=some r:=by first|(rw[ap];with_reducible exact H)|(have H2_:=(Option.bind_some _ _).symm.trans H;rw[ap];with_reducible exact H2_)|(have H2_:=(Option.bind_some _ _).symm.trans H;with_reducible exact H2_)|with_reducible exact H|(rw[ap];exact H)|exact H
          have aJ:=Aside0.mk ap
          clear ap
          by_cases c15:a1>0
          ·rw [if_pos c15]at H
           have aQ:decide (0<a1)=true:=decide_eq_true c15
           clear c15
           obtain⟨ai,aK⟩:∃j_:Int,(IntKind.u64.wrap (64-a1))=j_:=⟨_,rfl⟩
           replace H:(if 0≤(ai) then(if 0≤(wrap64 (aa+1)) then(if(wrap64 (aa+1))<(ab.length:Int) then(whole_amount_up.l0 k1 a1 (af.set ((wrap64 (aa+1)):Int).toNat (shr .u64 (rd l0 aa) (ai))) l0 (l0.length:Int) (wrap64 (aa+1))) else(none)) else(none)) else(none))=some r:=by first|(rw[aK]at H;exact H)|(simp only[aK]at H ⊢;exact H)
           by_cases c17:0≤(ai)
           ·rw[if_pos c17]at H
            have br:=eq_true c17
            have bu:decide (0≤(ai))=true:=decide_eq_true c17
            clear c17
            obtain⟨aj,av⟩:∃j_:Int,(shr .u64 (rd l0 aa) (ai))=j_:=⟨_,rfl⟩
            replace H:(if 0≤(wrap64 (aa+1)) then(if(wrap64 (aa+1))<(ab.length:Int) then(whole_amount_up.l0 k1 a1 (af.set ((wrap64 (aa+1)):Int).toNat (aj)) l0 (l0.length:Int) (wrap64 (aa+1))) else(none)) else(none))=some r:=by first|(rw[av]at H;exact H)|(simp only[av]at H ⊢;exact H)
            have hji18_:((rd l0 aa)/2^min (ai).toNat 64)=aj:=av
            have bh:(ai)≤64→((rd l0 aa)/2^(ai).toNat)=aj:=shr_small av
            obtain⟨ad,aw⟩:∃j_:Int,(wrap64 (aa+1))=j_:=⟨_,rfl⟩
            replace H:(if 0≤(ad) then(if(ad)<(ab.length:Int) then(whole_amount_up.l0 k1 a1 (af.set ((ad):Int).toNat (aj)) l0 (l0.length:Int) ad) else(none)) else(none))=some r:=by first|(rw[aw]at H;exact H)|(simp only[aw]at H ⊢;exact H)
            have bi:(IntKind.i64.wrap (aa+1))=ad:=(i64_w _).trans aw
            by_cases c20:0≤(ad)
            ·rw[if_pos c20]at H
             have bv:decide (0≤(ad))=true:=decide_eq_true c20
             clear c20
             by_cases c21:(ad)<(ab.length:Int)
             ·rw[if_pos c21]at H
              have bw:decide ((ad)<(ab.length:Int))=true:=decide_eq_true c21
              clear c21
              obtain⟨aB,aq⟩:∃y_:List Int,y_=(af.set ((ad):Int).toNat (aj)):=⟨_,rfl⟩
              replace H:(whole_amount_up.l0 k1 a1 aB l0 (l0.length:Int) ad)=some r:=by first|(rw[aq];with_reducible exact H)|(have H2_:=(Option.bind_some _ _).symm.trans H;rw[aq];with_reducible exact H2_)|(have H2_:=(Option.bind_some _ _).symm.trans H;with_reducible exact H2_)|with_reducible exact H|(rw[aq];exact H)|exact H
              have aR:=Aside0.mk aq
              clear aq
              have H':=Aside0.mk H
              clear H
              have ak:0≤(aa:Int):=of_decide_eq_true ‹_›
              have al:aa<(l0.length:Int):=of_decide_eq_true ‹_›
              obtain⟨aS,aC,ae⟩:=Kd.at_int HR0.out aa ak al
              cases aC
              replace ae:=(HB.out.cell (World.block_lt_of_cell? w _ ae)).trans ae
              replace ak:=eq_true ak
              replace al:=eq_true al
              obtain⟨bz,aM,bb⟩:=Kd.R_slice ac.out
              subst bb
              have am:0≤(aa:Int):=of_decide_eq_true ‹_›
              have an:aa<(ab.length:Int):=of_decide_eq_true ‹_›
              obtain⟨aT,aD,ar⟩:=Kd.at_int (Kd.R_reads' ac.out).2.2 aa am an
              cases aD
              replace am:=eq_true am
              replace an:=eq_true an
              have p14:0≤(aa:Int):=of_decide_eq_true ‹_›
              have q14:(aa:Int)<((ab.length:Int):Int):=of_decide_eq_true ‹_›
              obtain⟨ag,co14,ax,ay,aE,bc,az⟩:=Kd.R_form ac.out Z0
              (first|cases ax|(injection ax with ea_ en_ ec_;(first|subst ea_|(injection ea_ with ea_;subst ea_));subst ec_;clear en_))
              have aA:=Aside0.mk ay
              have bd:=Aside0.mk az
              clear ay aE az
              (first|simp only[add_plain]at ar|skip)
              obtain⟨aN,aO⟩:=Kd.R_celln 0 ac.out (aa:Int) p14 q14
              replace p14:=eq_true p14
              replace q14:=eq_true q14
              have aF:=Kd.R_putg ac.out (aa:Int) (Go.bits .or .u64 (rd ab aa) (ah))
              go_wp2_with (first|((with_reducible refine gate_store (t:=91) (p:=27) rfl ?_);refine store_event (t:=91) (p:=27) (v:=?vo_w25) (w1:=(wr.setCell ⟨ag,(aa:Int).toNat,none⟩ (.int .u64 (Go.bits .or .u64 (rd ab aa) (ah))))) ?hg ?ho ?hn ?hr ?_;(case ho=>rfl);(case hg=>rfl);(case hn=>rfl);(case hr=>first|(go_simp;done)|(go_simp;rfl));intro w25 hw;have hg:wr.grownBy w25 (some ag):=(by rw[hw];exact aF.2);have hp_:Kd.R (Kd.int .u64) 91 w25 w.heap.size (fun _=>True) (.slice (some ⟨ag,0,none⟩) ab.length aM) af:=(by rw[hw,aJ.out];exact aF.1);clear aF;replace ac:=Aside0.mk (hp_);replace HB:=Aside0.mk ((by rw[hw];exact below_set (HB.out) aA.out:Below w.heap.size w w25));clear hg hw hp_;have p22:0≤((ad):Int):=of_decide_eq_true ‹_›;have q22:((ad):Int)<((ab.length:Int):Int):=of_decide_eq_true ‹_›;obtain⟨bj,bk⟩:=Kd.R_celln 0 ac.out ((ad):Int) p22 q22;replace p22:=eq_true p22;replace q22:=eq_true q22;obtain⟨hy26_,hz26_⟩:=Kd.R_celln 0 ac.out ((ad):Int) (of_decide_eq_true ‹_›) (of_decide_eq_true ‹_›);have aG:=Kd.R_putg ac.out ((ad):Int) aj)|((with_reducible refine gate_store (t:=91) (p:=37) rfl ?_);refine store_event (t:=91) (p:=37) (v:=?vo_w27) (w1:=(w25.setCell ⟨ag,((ad):Int).toNat,none⟩ (.int .u64 aj))) ?hg ?ho ?hn ?hr ?_;(case ho=>rfl);(case hg=>rfl);(case hn=>rfl);(case hr=>first|(go_simp;done)|(go_simp;rfl));intro w27 hw;have hg:w25.grownBy w27 (some ag):=(by rw[hw];exact aG.2);have hp_:Kd.R (Kd.int .u64) 91 w27 w.heap.size (fun _=>True) (.slice (some ⟨ag,0,none⟩) ab.length aM) aB:=(by rw[hw,aR.out];exact aG.1);clear aG;replace ac:=Aside0.mk (hp_);replace HB:=Aside0.mk ((by rw[hw];exact below_set (HB.out) aA.out:Below w.heap.size w w27));clear hg hw hp_))
              go_roundg k1
              case measure=>have:=HK1.out;omega
              case rel=>exact⟨(aB),(ad),(by first|rfl|(simp;done)|(simp only[←aw]<;>(first|rfl|simp))|(simp[*];done)),H',⟨Y3⟩,⟨kru ac.out⟩,⟨khu HB.out⟩⟩
             rw[if_neg c21]at H
             exact absurd H Z1
            rw[if_neg c20]at H
            exact absurd H Z1
           rw[if_neg c17]at H
           exact absurd H Z1
          rw[if_neg c15]at H
          have aQ:decide (0<a1)=false:=decide_eq_false c15
          clear c15
          have H':=Aside0.mk H
          clear H
          have ak:0≤(aa:Int):=of_decide_eq_true ‹_›
          have al:aa<(l0.length:Int):=of_decide_eq_true ‹_›
          obtain⟨aS,aC,ae⟩:=Kd.at_int HR0.out aa ak al
          cases aC
          replace ae:=(HB.out.cell (World.block_lt_of_cell? w _ ae)).trans ae
          replace ak:=eq_true ak
          replace al:=eq_true al
          obtain⟨bA,be,bf⟩:=Kd.R_slice ac.out
          subst bf
          have am:0≤(aa:Int):=of_decide_eq_true ‹_›
          have an:aa<(ab.length:Int):=of_decide_eq_true ‹_›
          obtain⟨aT,aD,ar⟩:=Kd.at_int (Kd.R_reads' ac.out).2.2 aa am an
          cases aD
          replace am:=eq_true am
          replace an:=eq_true an
          have p14:0≤(aa:Int):=of_decide_eq_true ‹_›
          have q14:(aa:Int)<((ab.length:Int):Int):=of_decide_eq_true ‹_›
          obtain⟨ag,co14,ax,ay,aE,bc,az⟩:=Kd.R_form ac.out Z0
          (first|cases ax|(injection ax with ea_ en_ ec_;(first|subst ea_|(injection ea_ with ea_;subst ea_));subst ec_;clear en_))
          have aA:=Aside0.mk ay
          have bd:=Aside0.mk az
          clear ay aE az
          (first|simp only[add_plain]at ar|skip)
          obtain⟨aN,aO⟩:=Kd.R_celln 0 ac.out (aa:Int) p14 q14
          replace p14:=eq_true p14
          replace q14:=eq_true q14
          have aH:=Kd.R_putg ac.out (aa:Int) (Go.bits .or .u64 (rd ab aa) (ah))
          go_wp2_with (first|((with_reducible refine gate_store (t:=91) (p:=27) rfl ?_);refine store_event (t:=91) (p:=27) (v:=?vo_w30) (w1:=(wr.setCell ⟨ag,(aa:Int).toNat,none⟩ (.int .u64 (Go.bits .or .u64 (rd ab aa) (ah))))) ?hg ?ho ?hn ?hr ?_;(case ho=>rfl);(case hg=>rfl);(case hn=>rfl);(case hr=>first|(go_simp;done)|(go_simp;rfl));intro w30 hw;have hg:wr.grownBy w30 (some ag):=(by rw[hw];exact aH.2);have hp_:Kd.R (Kd.int .u64) 91 w30 w.heap.size (fun _=>True) (.slice (some ⟨ag,0,none⟩) ab.length be) af:=(by rw[hw,aJ.out];exact aH.1);clear aH;replace ac:=Aside0.mk (hp_);replace HB:=Aside0.mk ((by rw[hw];exact below_set (HB.out) aA.out:Below w.heap.size w w30));clear hg hw hp_))
          go_roundg k1
          case measure=>have:=HK1.out;omega
          case rel=>exact⟨(af),(wrap64 (aa+1)),Y0,H',⟨Y3⟩,⟨kru ac.out⟩,⟨khu HB.out⟩⟩
         rw[if_neg c12]at H
         exact absurd H Z1
        rw[if_neg c11]at H
        exact absurd H Z1
       rw[if_neg c10]at H
       exact absurd H Z1
      rw[if_neg c9]at H
      exact absurd H Z1
     rw[if_neg c8]at H
     have aZ:decide (aa<(l0.length:Int))=false:=decide_eq_false c8
     clear c8
     obtain rfl:=Option.some.inj H
     go_wp2
     go_ret
     exact⟨_,F3,kru ac.out,khu HB.out⟩
  rw[if_neg c5]at H
  exact absurd H Z1
 rw[if_neg c4]at H
 exact absurd H Z1
def whole_subtract.l0:Nat→List Int→List Int→Int→Int→Int→List Int→Int→Int→Option (Bool×List Int)
 | 0,_,_,_,_,_,_,_,_=>none
 | k+1,x0,x1,x2,x7,x8,x14,x15,x16=>if x16<x15 then(if 0≤x16 then(if x16<(x14.length:Int) then((bits_Mul64.f x2 (rd x14 x16)).bind fun bt242=>((bits_Add64.f bt242.2 x7 0).bind fun bt244=>(if x16<(x0.length:Int) then((bits_Sub64.f (rd x0 x16) bt244.1 x8).bind fun bt247=>(whole_subtract.l0 k (x0.set (x16:Int).toNat bt247.1) x1 x2 (IntKind.u64.wrap (bt242.1+bt244.2)) bt247.2 x14 x15 (wrap64 (x16+1)))) else(none)))) else(none)) else(none)) else(if 0≤(x1.length:Int) then(if(x1.length:Int)<(x0.length:Int) then((bits_Sub64.f (rd x0 (x1.length:Int)) x7 x8).bind fun bt251=>(some ((bt251.2==1),(x0.set ((x1.length:Int):Int).toNat bt251.1)))) else(none)) else(none))
def whole_subtract.f (k:Nat) (l0:List Int) (l1:List Int) (a2:Int):Option (Bool×List Int):=whole_subtract.l0 k l0 l1 a2 0 0 l1 (l1.length:Int) 0
theorem whole_subtract.mono_l:∀k,(∀y0 y1 y2 y3 y4 y5 y6 y7,LeO (whole_subtract.l0 k y0 y1 y2 y3 y4 y5 y6 y7) (whole_subtract.l0 (k+1) y0 y1 y2 y3 y4 y5 y6 y7))
 | 0=>fun _ _ _ _ _ _ _ _ r h=>by simp[whole_subtract.l0]at h
 | k+1=>by
  have ih0:=whole_subtract.mono_l k
  intro y0 y1 y2 y3 y4 y5 y6 y7
  unfold whole_subtract.l0
  repeat' first
  | (with_reducible exact ih0 _ _ _ _ _ _ _ _)
  | (with_reducible exact LeO.refl _)
  | (with_reducible exact LeO.none _)
  | (with_reducible refine LeO.ite ?_ ?_)
  | (with_reducible refine LeO.bind ?_ (fun _=>?_))
  | exact ih0 _ _ _ _ _ _ _ _
  | exact LeO.none _
  | refine LeO.ite ?_ ?_
  | refine LeO.bind ?_ (fun _=>?_)
theorem whole_subtract.mono:∀a0 a1 a2 k,LeO (whole_subtract.f k a0 a1 a2) (whole_subtract.f (k+1) a0 a1 a2):=by
 intro a0 a1 a2 k
 have ih0:=whole_subtract.mono_l k
 unfold whole_subtract.f
 repeat' first
   | (with_reducible exact ih0 _ _ _ _ _ _ _ _)
   | (with_reducible exact LeO.refl _)
   | (with_reducible exact LeO.none _)
   | (with_reducible refine LeO.ite ?_ ?_)
   | (with_reducible refine LeO.bind ?_ (fun _=>?_))
   | exact ih0 _ _ _ _ _ _ _ _
   | exact LeO.none _
   | refine LeO.ite ?_ ?_
   | refine LeO.bind ?_ (fun _=>?_)
def whole_add.l0:Nat→List Int→List Int→Int→List Int→Int→Int→Option (List Int)
 | 0,_,_,_,_,_,_=>none
 | k+1,x0,x1,x4,x7,x8,x9=>if x9<x8 then(if 0≤x9 then(if x9<(x7.length:Int) then(if x9<(x0.length:Int) then((bits_Add64.f (rd x0 x9) (rd x7 x9) x4).bind fun bt256=>(whole_add.l0 k (x0.set (x9:Int).toNat bt256.1) x1 bt256.2 x7 x8 (wrap64 (x9+1)))) else(none)) else(none)) else(none)) else(if 0≤(x1.length:Int) then(if(x1.length:Int)<(x0.length:Int) then(some (x0.set ((x1.length:Int):Int).toNat (IntKind.u64.wrap ((rd x0 (x1.length:Int))+x4)))) else(none)) else(none))
def whole_add.f (k:Nat) (l0:List Int) (l1:List Int):Option (List Int):=whole_add.l0 k l0 l1 0 l1 (l1.length:Int) 0
theorem whole_add.mono_l:∀k,(∀y0 y1 y2 y3 y4 y5,LeO (whole_add.l0 k y0 y1 y2 y3 y4 y5) (whole_add.l0 (k+1) y0 y1 y2 y3 y4 y5))
 | 0=>fun _ _ _ _ _ _ r h=>by simp[whole_add.l0]at h
 | k+1=>by
  have ih0:=whole_add.mono_l k
  intro y0 y1 y2 y3 y4 y5
  unfold whole_add.l0
  repeat' first
  | (with_reducible exact ih0 _ _ _ _ _ _)
  | (with_reducible exact LeO.refl _)
  | (with_reducible exact LeO.none _)
  | (with_reducible refine LeO.ite ?_ ?_)
  | (with_reducible refine LeO.bind ?_ (fun _=>?_))
  | exact ih0 _ _ _ _ _ _
  | exact LeO.none _
  | refine LeO.ite ?_ ?_
  | refine LeO.bind ?_ (fun _=>?_)
theorem whole_add.mono:∀a0 a1 k,LeO (whole_add.f k a0 a1) (whole_add.f (k+1) a0 a1):=by
 intro a0 a1 k
 have ih0:=whole_add.mono_l k
 unfold whole_add.f
 repeat' first
   | (with_reducible exact ih0 _ _ _ _ _ _)
   | (with_reducible exact LeO.refl _)
   | (with_reducible exact LeO.none _)
   | (with_reducible refine LeO.ite ?_ ?_)
   | (with_reducible refine LeO.bind ?_ (fun _=>?_))
   | exact ih0 _ _ _ _ _ _
   | exact LeO.none _
   | refine LeO.ite ?_ ?_
   | refine LeO.bind ?_ (fun _=>?_)
def whole_amount_down.l0:Nat→Int→List Int→List Int→Int→Int→Option (List Int)
 | 0,_,_,_,_,_=>none
 | k+1,x1,x5,x11,x12,x13=>if x13<x12 then(if 0≤x13 then(if x13<(x11.length:Int) then(if x13<(x5.length:Int) then(if 0≤x1 then((some (x5.set (x13:Int).toNat (Go.bits .or .u64 (rd x5 x13) (shr .u64 (rd x11 x13) x1)):List Int)).bind fun y266=>(if x1>0 then(if x13>0 then(if 0≤(wrap64 (x13-1)) then(if(wrap64 (x13-1))<(x5.length:Int) then(if 0≤(IntKind.u64.wrap (64-x1)) then(whole_amount_down.l0 k x1 (y266.set ((wrap64 (x13-1)):Int).toNat (Go.bits .or .u64 (rd y266 (wrap64 (x13-1))) (shl .u64 (rd x11 x13) (IntKind.u64.wrap (64-x1))))) x11 x12 (wrap64 (x13+1))) else(none)) else(none)) else(none)) else(whole_amount_down.l0 k x1 y266 x11 x12 (wrap64 (x13+1)))) else(whole_amount_down.l0 k x1 y266 x11 x12 (wrap64 (x13+1))))) else(none)) else(none)) else(none)) else(none)) else((whole_trimmed.f k x5).bind fun t269=>(some t269))
def whole_amount_down.f (k:Nat) (l0:List Int) (a1:Int):Option (List Int):=if 0≤(l0.length:Int) then(if((l0.length:Int):Int).toNat≤35184372088832 then(whole_amount_down.l0 k a1 (List.replicate ((l0.length:Int):Int).toNat 0) l0 (l0.length:Int) 0) else(none)) else(none)
theorem whole_amount_down.calls (k:Nat) (A0:Option Addr) (c0:Nat) (l0:List Int) (a1:Int) (r:List Int) (w:World) (hr0:Kd.C (Kd.int .u64) w A0 l0.length l0) (hc0:l0.length≤c0) (h:whole_amount_down.f k l0 a1=some r) :
  Calls Tryz.prog 229 #[.slice A0 l0.length c0,.int .u64 a1] w fun e w'=>∃v0_:Value,e=.returned (v0_)∧Kd.V (Kd.int .u64) 91 w' w.heap.size (fun k_=>(w.heap.size≤k_)) v0_ r∧Below w.heap.size w w':=by
 have HR0:=Aside0.mk hr0
 have HC0:=Aside0.mk hc0
 clear hr0 hc0
 have HB:=Aside0.mk (Below.refl w.heap.size w)
 have H:(if 0≤(l0.length:Int) then(if((l0.length:Int):Int).toNat≤35184372088832 then(whole_amount_down.l0 k a1 (List.replicate ((l0.length:Int):Int).toNat 0) l0 (l0.length:Int) 0) else(none)) else(none))=some r:=h
 clear h
 by_cases c3:0≤(l0.length:Int)
 ·rw [if_pos c3]at H
  have bf:=eq_true c3
  have bg:decide (0≤(l0.length:Int))=true:=decide_eq_true c3
  clear c3
  by_cases c4:((l0.length:Int):Int).toNat≤35184372088832
  ·rw [if_pos c4]at H
   have bh:=eq_true c4
   have bi:decide (((l0.length:Int):Int).toNat≤35184372088832)=true:=decide_eq_true c4
   clear c4
   obtain⟨aR,aq⟩:∃y_:List Int,y_=(List.replicate ((l0.length:Int):Int).toNat 0):=⟨_,rfl⟩
   replace H:(whole_amount_down.l0 k a1 aR l0 (l0.length:Int) 0)=some r:=by first|(rw[aq];with_reducible exact H)|(have H2_:=(Option.bind_some _ _).symm.trans H;rw[aq];with_reducible exact H2_)|(have H2_:=(Option.bind_some _ _).symm.trans H;with_reducible exact H2_)|with_reducible exact H|(rw[aq];exact H)|exact H
   have aN:=Aside0.mk aq
   clear aq
   have H':=Aside0.mk H
   clear H
   go_enter Tryz.func229,Tryz.ntmps229
   go_wp2_with (first|(refine gd 10 rfl ?_;refine Kd.R_make (Kd.int .u64) _ 91 rfl (N:=10) rfl 22 _ _ rfl (l0.length:Int) rfl rfl Tryz.underlying22 (.int .u64 0) 8 info91 rfl J0 Z0 0 (ok:=fun _=>True) (okp:=fun _=>True) rfl (fun _ hk=>hk) trivial (of_decide_eq_true ‹_›) (Nat.le_trans (Nat.mul_le_mul_right _ (of_decide_eq_true ‹_›:(l0.length:Int).toNat≤35184372088832)) Z0) (Below.refl _ _) (Nat.le_refl _) ?_;intro bj w5 ho6 hb hg_ hnew_;clear hg_ hnew_;(first|rw[←aN.out]at ho6|(simp only[Int.reduceToNat]at ho6;rw[←aN.out]at ho6));have aY:=Aside0.mk (Kd.R_lower (Kd.R_newM (M:=fun k_=>(w.heap.size≤k_)) ho6 (below_size (khu HB.out)) (fun k_ h_=>h_)) (below_size (khu HB.out)));replace HB:=kbs HB hb;clear hb ho6))
   go_loopg [13] k (fun kq v13 w'=>∃(aa:List Int) (x13_1:Int),v13=.int .i64 x13_1∧Aside0 (whole_amount_down.l0 kq a1 aa l0 (l0.length:Int) x13_1=some r)∧Aside0 (kq≤k)∧Aside0 (Kd.R (Kd.int .u64) 91 w' w.heap.size (fun k_=>(w.heap.size≤k_)) bj aa)∧Aside0 (Below w.heap.size w w'))
   case atStart=>exact⟨(aR),(0),Y0,H',⟨Nat.le_refl _⟩,⟨by(with_reducible repeat (first|apply Kd.R_alloc|apply Kd.R_drewN|apply Kd.R_drew));exact Kd.R_mono aY.out (fun _ hk=>hk.1)⟩,⟨khu HB.out⟩⟩
   case round =>
    clear H'
    try clear c2
    try clear p2
    try clear c3
    try clear bf
    try clear bg
    try clear c4
    try clear bh
    try clear bi
    obtain⟨aa,x13_1,rfl,HA,HK1,ab,HB⟩:=hrel
    cases gk with
    | zero=>exact absurd HA.out (by simp[whole_amount_down.l0])
    | succ k1 =>
     have H:=HA.out
     clear HA
     simp only[whole_amount_down.l0]at H
     by_cases c7:x13_1<(l0.length:Int)
     ·rw [if_pos c7]at H
      have bk:decide (x13_1<(l0.length:Int))=true:=decide_eq_true c7
      clear c7
      by_cases c8:0≤x13_1
      ·rw [if_pos c8]at H
       have bI:decide (0≤x13_1)=true:=decide_eq_true c8
       clear c8
       by_cases c9:x13_1<(l0.length:Int)
       ·rw [if_pos c9]at H
        have bJ:decide (x13_1<(l0.length:Int))=true:=decide_eq_true c9
        clear c9
        by_cases c10:x13_1<(aa.length:Int)
        ·rw [if_pos c10]at H
         have bA:decide (x13_1<(aa.length:Int))=true:=decide_eq_true c10
         clear c10
         by_cases c11:0≤a1
         ·rw [if_pos c11]at H
          have bB:=eq_true c11
          have bC:decide (0≤a1)=true:=decide_eq_true c11
          clear c11
          obtain⟨ak,hji12⟩:∃j_:Int,(shr .u64 (rd l0 x13_1) a1)=j_:=⟨_,rfl⟩
          replace H:((some (aa.set (x13_1:Int).toNat (Go.bits .or .u64 (rd aa x13_1) (ak)):List Int)).bind fun ad=>(if a1>0 then(if x13_1>0 then(if 0≤(wrap64 (x13_1-1)) then(if(wrap64 (x13_1-1))<(aa.length:Int) then(if 0≤(IntKind.u64.wrap (64-a1)) then(whole_amount_down.l0 k1 a1 (ad.set ((wrap64 (x13_1-1)):Int).toNat (Go.bits .or .u64 (rd ad (wrap64 (x13_1-1))) (shl .u64 (rd l0 x13_1) (IntKind.u64.wrap (64-a1))))) l0 (l0.length:Int) (wrap64 (x13_1+1))) else(none)) else(none)) else(none)) else(whole_amount_down.l0 k1 a1 ad l0 (l0.length:Int) (wrap64 (x13_1+1)))) else(whole_amount_down.l0 k1 a1 ad l0 (l0.length:Int) (wrap64 (x13_1+1)))))=some r:=by first|(rw[hji12]at H;exact H)|(simp only[hji12]at H ⊢;exact H)
          have hji12_:((rd l0 x13_1)/2^min a1.toNat 64)=ak:=hji12
          have bu:a1≤64→((rd l0 x13_1)/2^a1.toNat)=ak:=shr_small hji12
          obtain⟨ad,ar⟩:∃y_:List Int,y_=(aa.set (x13_1:Int).toNat (Go.bits .or .u64 (rd aa x13_1) (ak))):=⟨_,rfl⟩
          replace H:(if a1>0 then(if x13_1>0 then(if 0≤(wrap64 (x13_1-1)) then(if(wrap64 (x13_1-1))<(aa.length:Int) then(if 0≤(IntKind.u64.wrap (64-a1)) then(whole_amount_down.l0 k1 a1 (ad.set ((wrap64 (x13_1-1)):Int).toNat (Go.bits .or .u64 (rd ad (wrap64 (x13_1-1))) (shl .u64 (rd l0 x13_1) (IntKind.u64.wrap (64-a1))))) l0 (l0.length:Int) (wrap64 (x13_1+1))) else(none)) else(none)) else(none)) else(whole_amount_down.l0 k1 a1 ad l0 (l0.length:Int) (wrap64 (x13_1+1)))) else(whole_amount_down.l0 k1 a1 ad l0 (l0.length:Int) (wrap64 (x13_1+1))))=some r:=by first|(rw[ar];with_reducible exact H)|(have H2_:=(Option.bind_some _ _).symm.trans H;rw[ar];with_reducible exact H2_)|(have H2_:=(Option.bind_some _ _).symm.trans H;with_reducible exact H2_)|with_reducible exact H|(rw[ar];exact H)|exact H
          have ay:=Aside0.mk ar
          clear ar
          by_cases c14:a1>0
          ·rw [if_pos c14]at H
           have aZ:decide (0<a1)=true:=decide_eq_true c14
           clear c14
           by_cases c15:x13_1>0
           ·rw [if_pos c15]at H
            have bb:decide (0<x13_1)=true:=decide_eq_true c15
            clear c15
            obtain⟨ac,aD⟩:∃j_:Int,(wrap64 (x13_1-1))=j_:=⟨_,rfl⟩
            replace H:(if 0≤(ac) then(if(ac)<(aa.length:Int) then(if 0≤(IntKind.u64.wrap (64-a1)) then(whole_amount_down.l0 k1 a1 (ad.set ((ac):Int).toNat (Go.bits .or .u64 (rd ad (ac)) (shl .u64 (rd l0 x13_1) (IntKind.u64.wrap (64-a1))))) l0 (l0.length:Int) (wrap64 (x13_1+1))) else(none)) else(none)) else(none))=some r:=by first|(rw[aD]at H;exact H)|(simp only[aD]at H ⊢;exact H)
            have bv:(IntKind.i64.wrap (x13_1-1))=ac:=(i64_w _).trans aD
            by_cases c17:0≤(ac)
            ·rw[if_pos c17]at H
             have bD:decide (0≤(ac))=true:=decide_eq_true c17
             clear c17
             by_cases c18:(ac)<(aa.length:Int)
             ·rw[if_pos c18]at H
              have bE:decide ((ac)<(aa.length:Int))=true:=decide_eq_true c18
              clear c18
              obtain⟨am,aO⟩:∃j_:Int,(IntKind.u64.wrap (64-a1))=j_:=⟨_,rfl⟩
              replace H:(if 0≤(am) then(whole_amount_down.l0 k1 a1 (ad.set ((ac):Int).toNat (Go.bits .or .u64 (rd ad (ac)) (shl .u64 (rd l0 x13_1) (am)))) l0 (l0.length:Int) (wrap64 (x13_1+1))) else(none))=some r:=by first|(rw[aO]at H;exact H)|(simp only[aO]at H ⊢;exact H)
              by_cases c20:0≤(am)
              ·rw[if_pos c20]at H
               have bF:=eq_true c20
               have bG:decide (0≤(am))=true:=decide_eq_true c20
               clear c20
               obtain⟨av,az⟩:∃j_:Int,(shl .u64 (rd l0 x13_1) (am))=j_:=⟨_,rfl⟩
               replace H:(whole_amount_down.l0 k1 a1 (ad.set ((ac):Int).toNat (Go.bits .or .u64 (rd ad (ac)) (av))) l0 (l0.length:Int) (wrap64 (x13_1+1)))=some r:=by first|(rw[az]at H;exact H)|(simp only[az]at H ⊢;exact H)
               have hji21_:(IntKind.u64.wrap ((rd l0 x13_1)*2^min (am).toNat 64))=av:=az
               have bw:(am)≤64→(IntKind.u64.wrap ((rd l0 x13_1)*2^(am).toNat))=av:=shl_small az
               obtain⟨aG,au⟩:∃y_:List Int,y_=(ad.set ((ac):Int).toNat (Go.bits .or .u64 (rd ad (ac)) (av))):=⟨_,rfl⟩
               replace H:(whole_amount_down.l0 k1 a1 aG l0 (l0.length:Int) (wrap64 (x13_1+1)))=some r:=by first|(rw[au];with_reducible exact H)|(have H2_:=(Option.bind_some _ _).symm.trans H;rw[au];with_reducible exact H2_)|(have H2_:=(Option.bind_some _ _).symm.trans H;with_reducible exact H2_)|with_reducible exact H|(rw[au];exact H)|exact H
               have bc:=Aside0.mk au
               clear au
               have H':=Aside0.mk H
               clear H
               have ag:0≤(x13_1:Int):=of_decide_eq_true ‹_›
               have ah:x13_1<(l0.length:Int):=of_decide_eq_true ‹_›
               obtain⟨aP,aA,ae⟩:=Kd.at_int HR0.out x13_1 ag ah
               cases aA
               replace ae:=(HB.out.cell (World.block_lt_of_cell? w _ ae)).trans ae
               replace ag:=eq_true ag
               replace ah:=eq_true ah
               obtain⟨bK,aS,bl⟩:=Kd.R_slice ab.out
               subst bl
               have ai:0≤(x13_1:Int):=of_decide_eq_true ‹_›
               have aj:x13_1<(aa.length:Int):=of_decide_eq_true ‹_›
               obtain⟨aQ,aB,al⟩:=Kd.at_int (Kd.R_reads' ab.out).2.2 x13_1 ai aj
               cases aB
               replace ai:=eq_true ai
               replace aj:=eq_true aj
               have p13:0≤(x13_1:Int):=of_decide_eq_true ‹_›
               have q13:(x13_1:Int)<((aa.length:Int):Int):=of_decide_eq_true ‹_›
               obtain⟨af,aT,an,ao,aC,aU,ap⟩:=Kd.R_form ab.out Z0
               (first|cases an|(injection an with ea_ en_ ec_;(first|subst ea_|(injection ea_ with ea_;subst ea_));subst ec_;clear en_))
               have aw:=Aside0.mk ao
               have aV:=Aside0.mk ap
               clear ao aC ap
               (first|simp only[add_plain]at al|skip)
               obtain⟨aE,aF⟩:=Kd.R_celln 0 ab.out (x13_1:Int) p13 q13
               replace p13:=eq_true p13
               replace q13:=eq_true q13
               have aH:=Kd.R_putg ab.out (x13_1:Int) (Go.bits .or .u64 (rd aa x13_1) (ak))
               go_wp2_with (first|((with_reducible refine gate_store (t:=91) (p:=26) rfl ?_);refine store_event (t:=91) (p:=26) (v:=?vo_w25) (w1:=(wr.setCell ⟨af,(x13_1:Int).toNat,none⟩ (.int .u64 (Go.bits .or .u64 (rd aa x13_1) (ak))))) ?hg ?ho ?hn ?hr ?_;(case ho=>rfl);(case hg=>rfl);(case hn=>rfl);(case hr=>first|(go_simp;done)|(go_simp;rfl));intro w25 hw;have hg:wr.grownBy w25 (some af):=(by rw[hw];exact aH.2);have hp_:Kd.R (Kd.int .u64) 91 w25 w.heap.size (fun k_=>(w.heap.size≤k_)) (.slice (some ⟨af,0,none⟩) aa.length aS) ad:=(by rw[hw,ay.out];exact aH.1);clear aH;replace ab:=Aside0.mk (hp_);replace HB:=Aside0.mk ((by rw[hw];exact below_set (HB.out) aw.out:Below w.heap.size w w25));clear hg hw hp_;have aI:0≤((ac):Int):=of_decide_eq_true ‹_›;have aJ:(ac)<(ad.length:Int):=(by have h_:((ac):Int)<((aa.length:Int):Int):=of_decide_eq_true ‹_›;first|(have e_:=(Kd.R_reads' ab.out).1;omega)|simpa only[ay.out,List.length_set] using h_);have bH:(((ac):Int)<((aa.length:Int):Int))=True:=eq_true (of_decide_eq_true ‹_›);obtain⟨bd,bn,ax⟩:=Kd.at_int (Kd.R_reads' ab.out).2.2 (ac) aI aJ;obtain rfl:(⟨af,0,none⟩:Addr)=bd:=(by injection bn);(first|simp only[add_plain]at ax|simp only[add_at]at ax|simp only[Addr.add,Nat.zero_add]at ax|skip);replace aI:=eq_true aI;replace aJ:=eq_true aJ;have p22:0≤((ac):Int):=of_decide_eq_true ‹_›;have q22:((ac):Int)<((aa.length:Int):Int):=of_decide_eq_true ‹_›;obtain⟨bx,bz⟩:=Kd.R_celln 0 ab.out ((ac):Int) p22 q22;replace p22:=eq_true p22;replace q22:=eq_true q22;obtain⟨hy26_,hz26_⟩:=Kd.R_celln 0 ab.out ((ac):Int) (of_decide_eq_true ‹_›) (of_decide_eq_true ‹_›);have aK:=Kd.R_putg ab.out ((ac):Int) (Go.bits .or .u64 (rd ad (ac)) (av)))|((with_reducible refine gate_store (t:=91) (p:=43) rfl ?_);refine store_event (t:=91) (p:=43) (v:=?vo_w27) (w1:=(w25.setCell ⟨af,((ac):Int).toNat,none⟩ (.int .u64 (Go.bits .or .u64 (rd ad (ac)) (av))))) ?hg ?ho ?hn ?hr ?_;(case ho=>rfl);(case hg=>rfl);(case hn=>rfl);(case hr=>first|(go_simp;done)|(go_simp;rfl));intro w27 hw;have hg:w25.grownBy w27 (some af):=(by rw[hw];exact aK.2);have hp_:Kd.R (Kd.int .u64) 91 w27 w.heap.size (fun k_=>(w.heap.size≤k_)) (.slice (some ⟨af,0,none⟩) aa.length aS) aG:=(by rw[hw,bc.out];exact aK.1);clear aK;replace ab:=Aside0.mk (hp_);replace HB:=Aside0.mk ((by rw[hw];exact below_set (HB.out) aw.out:Below w.heap.size w w27));clear hg hw hp_))
               go_roundg k1
               case measure=>have:=HK1.out;omega
               case rel=>exact⟨(aG),(wrap64 (x13_1+1)),Y0,H',⟨Y3⟩,⟨kru ab.out⟩,⟨khu HB.out⟩⟩
              rw[if_neg c20]at H
              exact absurd H Z1
             rw[if_neg c18]at H
             exact absurd H Z1
            rw[if_neg c17]at H
            exact absurd H Z1
           rw[if_neg c15]at H
           have bb:decide (0<x13_1)=false:=decide_eq_false c15
           clear c15
           have H':=Aside0.mk H
           clear H
           have ag:0≤(x13_1:Int):=of_decide_eq_true ‹_›
           have ah:x13_1<(l0.length:Int):=of_decide_eq_true ‹_›
           obtain⟨aP,aA,ae⟩:=Kd.at_int HR0.out x13_1 ag ah
           cases aA
           replace ae:=(HB.out.cell (World.block_lt_of_cell? w _ ae)).trans ae
           replace ag:=eq_true ag
           replace ah:=eq_true ah
           obtain⟨bL,bo,bp⟩:=Kd.R_slice ab.out
           subst bp
           have ai:0≤(x13_1:Int):=of_decide_eq_true ‹_›
           have aj:x13_1<(aa.length:Int):=of_decide_eq_true ‹_›
           obtain⟨aQ,aB,al⟩:=Kd.at_int (Kd.R_reads' ab.out).2.2 x13_1 ai aj
           cases aB
           replace ai:=eq_true ai
           replace aj:=eq_true aj
           have p13:0≤(x13_1:Int):=of_decide_eq_true ‹_›
           have q13:(x13_1:Int)<((aa.length:Int):Int):=of_decide_eq_true ‹_›
           obtain⟨af,aT,an,ao,aC,aU,ap⟩:=Kd.R_form ab.out Z0
           (first|cases an|(injection an with ea_ en_ ec_;(first|subst ea_|(injection ea_ with ea_;subst ea_));subst ec_;clear en_))
           have aw:=Aside0.mk ao
           have aV:=Aside0.mk ap
           clear ao aC ap
           (first|simp only[add_plain]at al|skip)
           obtain⟨aE,aF⟩:=Kd.R_celln 0 ab.out (x13_1:Int) p13 q13
           replace p13:=eq_true p13
           replace q13:=eq_true q13
           have aL:=Kd.R_putg ab.out (x13_1:Int) (Go.bits .or .u64 (rd aa x13_1) (ak))
           go_wp2_with (first|((with_reducible refine gate_store (t:=91) (p:=26) rfl ?_);refine store_event (t:=91) (p:=26) (v:=?vo_w30) (w1:=(wr.setCell ⟨af,(x13_1:Int).toNat,none⟩ (.int .u64 (Go.bits .or .u64 (rd aa x13_1) (ak))))) ?hg ?ho ?hn ?hr ?_;(case ho=>rfl);(case hg=>rfl);(case hn=>rfl);(case hr=>first|(go_simp;done)|(go_simp;rfl));intro w30 hw;have hg:wr.grownBy w30 (some af):=(by rw[hw];exact aL.2);have hp_:Kd.R (Kd.int .u64) 91 w30 w.heap.size (fun k_=>(w.heap.size≤k_)) (.slice (some ⟨af,0,none⟩) aa.length bo) ad:=(by rw[hw,ay.out];exact aL.1);clear aL;replace ab:=Aside0.mk (hp_);replace HB:=Aside0.mk ((by rw[hw];exact below_set (HB.out) aw.out:Below w.heap.size w w30));clear hg hw hp_))
           go_roundg k1
           case measure=>have:=HK1.out;omega
           case rel=>exact⟨(ad),(wrap64 (x13_1+1)),Y0,H',⟨Y3⟩,⟨kru ab.out⟩,⟨khu HB.out⟩⟩
          rw[if_neg c14]at H
          have aZ:decide (0<a1)=false:=decide_eq_false c14
          clear c14
          have H':=Aside0.mk H
          clear H
          have ag:0≤(x13_1:Int):=of_decide_eq_true ‹_›
          have ah:x13_1<(l0.length:Int):=of_decide_eq_true ‹_›
          obtain⟨aP,aA,ae⟩:=Kd.at_int HR0.out x13_1 ag ah
          cases aA
          replace ae:=(HB.out.cell (World.block_lt_of_cell? w _ ae)).trans ae
          replace ag:=eq_true ag
          replace ah:=eq_true ah
          obtain⟨Ao31,co31,bq⟩:=Kd.R_slice ab.out
          subst bq
          have ai:0≤(x13_1:Int):=of_decide_eq_true ‹_›
          have aj:x13_1<(aa.length:Int):=of_decide_eq_true ‹_›
          obtain⟨aQ,aB,al⟩:=Kd.at_int (Kd.R_reads' ab.out).2.2 x13_1 ai aj
          cases aB
          replace ai:=eq_true ai
          replace aj:=eq_true aj
          have p13:0≤(x13_1:Int):=of_decide_eq_true ‹_›
          have q13:(x13_1:Int)<((aa.length:Int):Int):=of_decide_eq_true ‹_›
          obtain⟨af,aT,an,ao,aC,aU,ap⟩:=Kd.R_form ab.out Z0
          (first|cases an|(injection an with ea_ en_ ec_;(first|subst ea_|(injection ea_ with ea_;subst ea_));subst ec_;clear en_))
          have aw:=Aside0.mk ao
          have aV:=Aside0.mk ap
          clear ao aC ap
          (first|simp only[add_plain]at al|skip)
          obtain⟨aE,aF⟩:=Kd.R_celln 0 ab.out (x13_1:Int) p13 q13
          replace p13:=eq_true p13
          replace q13:=eq_true q13
          have aM:=Kd.R_putg ab.out (x13_1:Int) (Go.bits .or .u64 (rd aa x13_1) (ak))
          go_wp2_with (first|((with_reducible refine gate_store (t:=91) (p:=26) rfl ?_);refine store_event (t:=91) (p:=26) (v:=?vo_w33) (w1:=(wr.setCell ⟨af,(x13_1:Int).toNat,none⟩ (.int .u64 (Go.bits .or .u64 (rd aa x13_1) (ak))))) ?hg ?ho ?hn ?hr ?_;(case ho=>rfl);(case hg=>rfl);(case hn=>rfl);(case hr=>first|(go_simp;done)|(go_simp;rfl));intro w33 hw;have hg:wr.grownBy w33 (some af):=(by rw[hw];exact aM.2);have hp_:Kd.R (Kd.int .u64) 91 w33 w.heap.size (fun k_=>(w.heap.size≤k_)) (.slice (some ⟨af,0,none⟩) aa.length co31) ad:=(by rw[hw,ay.out];exact aM.1);clear aM;replace ab:=Aside0.mk (hp_);replace HB:=Aside0.mk ((by rw[hw];exact below_set (HB.out) aw.out:Below w.heap.size w w33));clear hg hw hp_))
          go_roundg k1
          case measure=>have:=HK1.out;omega
          case rel=>exact⟨(ad),(wrap64 (x13_1+1)),Y0,H',⟨Y3⟩,⟨kru ab.out⟩,⟨khu HB.out⟩⟩
         rw[if_neg c11]at H
         exact absurd H Z1
        rw[if_neg c10]at H
        exact absurd H Z1
       rw[if_neg c9]at H
       exact absurd H Z1
      rw[if_neg c8]at H
      exact absurd H Z1
     rw[if_neg c7]at H
     have bk:decide (x13_1<(l0.length:Int))=false:=decide_eq_false c7
     clear c7
     replace H:=Option.bind_eq_some_iff.mp H
     obtain⟨aW,aX,H⟩:=H
     replace H:(some aW)=some r:=H
     have A34:=Aside0.mk aX
     clear aX
     obtain rfl:=Option.some.inj H
     obtain⟨Ao35,co35,br⟩:=Kd.R_slice ab.out
     subst br
     go_wp2_with (first|((with_reducible refine gate_callee (f:=79) rfl ?_);refine kgl (some 46) rfl rfl Tryz.func79 #[.slice Ao35 aa.length co35] rfl ?_;(with_reducible refine(whole_trimmed.calls k1 (fun k_=>some k_=(.slice Ao35 aa.length co35:Value).ownBlock) _ _ aa aW _ ?side1 A34.out).mono ?_);(case side1=>exact Kd.R_V (Kd.R_tight rfl (ab.out)));rintro e w36 ⟨bM,rfl,ho0,hb⟩;refine⟨_,rfl,?_⟩;have be:=Aside0.mk (Kd.V_lower (Kd.V_mono (ok':=fun k_=>(w.heap.size≤k_)) ho0 (fun k_ hk_=>Or.elim hk_ (fun hs_=>((ab.out).1 k_ hs_.symm)) (fun hn_=>(Nat.le_trans (below_size (khu HB.out)) hn_)))) (below_size (khu HB.out)));replace ab:=krb ab hb;replace HB:=kbs HB hb;(try clear hb);(try clear hb2);(try clear hk);(try clear hi);(try clear ho0)))
     go_ret
     exact⟨_,B0,kvu be.out,khu HB.out⟩
  rw[if_neg c4]at H
  exact absurd H Z1
 rw[if_neg c3]at H
 exact absurd H Z1
end Go.Proofs.YtncomlmhagaajaaGreatDoor.PRp
namespace Go.Proofs.YtncomlmhagaajaaGreatDoor.Mine
open Go.RowKit Go.Proofs.YtncomlmhagaajaaGreatDoorW.PrintWords Go.Proofs.YtncomlmhagaajaaGreatDoorW.PrintLast Go.Proofs.YtncomlmhagaajaaGreatDoorW.PrintMore
open Go.Proofs.YtncomlmhagaajaaGreatDoor.PRp
def Seg (W:World) (g:Nat) (pre:List Value) (xs:List Int) (post:List Value):Prop:=W.heap[g]? = some (.cells (pre++xs.map (Value.int .u64)++post).toArray 91 (0,0))
theorem Seg.drewN {W:World} {g:Nat} {pre post:List Value} {xs:List Int} (h:Seg W g pre xs post) (n:Nat):Seg (W.drewN n) g pre xs post:=blk_drewN h n
theorem Seg.cell {W:World} {g:Nat} {pre post:List Value} {xs:List Int} (h:Seg W g pre xs post) (i:Int) (_h0:0≤i) (h1:i<xs.length):W.cell? ⟨g,pre.length+i.toNat,none⟩=some (.int .u64 (rd xs i)):=by
 rw[blk_cell h]
 have hi:i.toNat<xs.length:=by omega
 simp only[List.getElem?_toArray]
 rw[List.append_assoc,List.getElem?_append_right Z0,Nat.add_sub_cancel_left,List.getElem?_append_left (by simpa using hi),List.getElem?_map,List.getElem?_eq_getElem hi]
 simp[rd,List.getD_eq_getElem?_getD,List.getElem?_eq_getElem hi]
theorem Seg.cell0 {W:World} {g:Nat} {post:List Value} {xs:List Int} (h:Seg W g [] xs post) (i:Int) (h0:0≤i) (h1:i<xs.length):W.cell? ⟨g,i.toNat,none⟩=some (.int .u64 (rd xs i)):=by
 have:=h.cell i h0 h1
 simpa using this
theorem Seg.free {W:World} {g:Nat} {pre post:List Value} {xs:List Int} (h:Seg W g pre xs post) (j:Nat):W.frozen? ⟨g,j,none⟩=false:=blk_frozen h j
theorem Seg.put {W:World} {g:Nat} {pre post:List Value} {xs:List Int} (h:Seg W g pre xs post) (i:Int) (v:Int) (_h0:0≤i) (h1:i<xs.length):Seg (W.setCell ⟨g,pre.length+i.toNat,none⟩ (.int .u64 v)) g pre (xs.set i.toNat v) post:=by
 refine blk_put h _ _ ?_
 have hi:i.toNat<xs.length:=by omega
 simp only[List.setIfInBounds_toArray]
 congr 1
 rw[List.append_assoc,List.append_assoc,List.set_append_right _ _ Z1,Nat.add_sub_cancel_left,List.set_append_left _ _ (by simpa using hi),List.map_set]
theorem Seg.put0 {W:World} {g:Nat} {post:List Value} {xs:List Int} (h:Seg W g [] xs post) (i:Int) (v:Int) (h0:0≤i) (h1:i<xs.length):Seg (W.setCell ⟨g,i.toNat,none⟩ (.int .u64 v)) g [] (xs.set i.toNat v) post:=by
 have:=h.put i v h0 h1
 simpa using this
theorem Seg.far {W:World} {g:Nat} {pre post:List Value} {xs:List Int} (h:Seg W g pre xs post) {p:Addr} (hp:g≠p.block) (u:Value):Seg (W.setCell p u) g pre xs post:=blk_far h hp u
theorem Seg.lt {W:World} {g:Nat} {pre post:List Value} {xs:List Int} (h:Seg W g pre xs post):g<W.heap.size:=blk_lt h
theorem Seg.keep {W W':World} {g g':Nat} {pre post:List Value} {xs:List Int} (h:Seg W g pre xs post) (hk:KeepBut W W' g' none) (hne:g≠g'):Seg W' g pre xs post:=hk.blk h hne Z1
theorem Seg.below {W W':World} {g:Nat} {pre post:List Value} {xs:List Int} (h:Seg W g pre xs post) (hb:Below W.heap.size W W'):Seg W' g pre xs post:=blk_below h hb
theorem Seg.alloc {W:World} {g:Nat} {pre post:List Value} {xs:List Int} (h:Seg W g pre xs post) (o:Obj):Seg (W.alloc o) g pre xs post:=blk_alloc h o
theorem Seg.C {W:World} {g:Nat} {pre post:List Value} {xs:List Int} (h:Seg W g pre xs post) (hm:xs.length≤9223372036854775807):Kd.C (Kd.int .u64) W (some ⟨g,pre.length,none⟩) xs.length xs:=by
 refine⟨rfl,hm,fun _=>⟨_,rfl,fun j p hj=>⟨[.int .u64 p],rfl,rfl,fun i u hu=>?_⟩⟩⟩
 obtain⟨hjl,hjp⟩:=List.getElem?_eq_some_iff.1 hj
 have hi:i=0:=by
  have:=(List.getElem?_eq_some_iff.1 hu).1
  simpa using this
 subst hi
 have hu':Value.int .u64 p=u:=by simpa using hu
 subst hu'
 have hc:=h.cell (j:Int) Z0 Z0
 rw[show j*(Kd.int IntKind.u64).sz+0=j from by show j*1+0=j;omega]
 have ha:(⟨g,pre.length,none⟩:Addr).add j=⟨g,pre.length+(j:Int).toNat,none⟩:=by
  unfold Addr.add
  split<;>simp_all
 rw[ha,hc]
 simp[rd,List.getD_eq_getElem?_getD,hj]
theorem Seg.V {W:World} {g base c:Nat} {pre post:List Value} {xs:List Int} {ok:Nat→Prop} (h:Seg W g pre xs post) (hok:ok g) (hl:xs.length≤c) (hm:xs.length≤9223372036854775807):Kd.V (Kd.int .u64) 91 W base ok (.slice (some ⟨g,pre.length,none⟩) xs.length c) xs:=
 ⟨_,c,rfl,hl,fun W' hW=>Seg.C (pre:=pre) (post:=post) (show Seg W' g pre xs post from(hW g hok h.lt).trans h) hm⟩
theorem Seg.of_R {W:World} {base:Nat} {ok:Nat→Prop} {v:Value} {xs:List Int} (h:Kd.R (Kd.int .u64) 91 W base ok v xs) (hp:0<xs.length) :
  ∃g cap post,v=.slice (some ⟨g,0,none⟩) xs.length cap∧base≤g∧xs.length≤cap∧cap≤maxLen∧Seg W g [] xs post:=by
 have ho:=Kd.own_of_R (enc:=Value.int .u64) (h1:=fun _=>rfl) h
 rcases ho.2 with⟨_,h0⟩|⟨g,cap,cur,rfl,hg,hh,hl,hc,hs,ht⟩
 ·omega
 refine⟨g,cap,cur.toList.drop xs.length,rfl,hg,hl,hc,?_⟩
 unfold Seg
 rw[hh]
 congr 2
 have e:(encs (Value.int .u64) xs)=xs.map (Value.int .u64):=rfl
 rw[e]at ht
 rw[Nat.mul_one]at ht
 rw[List.nil_append,←ht,List.take_append_drop]
theorem KeepBut.drewN {w W:World} {g:Nat} (h:KeepBut w W g none) (n:Nat):KeepBut w (W.drewN n) g none:=h
theorem subtract_seg (k:Nat) (g c:Nat) (pre post:List Value) (xs:List Int) (A1:Option Addr) (c1:Nat) (l1:List Int) (a2:Int) (r1:Bool) (r2:List Int) (w:World) (hb:Seg w g pre xs post)
  (hv:∀W',KeepBut w W' g none→Kd.C (Kd.int .u64) W' A1 l1.length l1) (h:whole_subtract.f k xs l1 a2=some (r1,r2)) :
  Calls Tryz.prog 227 #[.slice (some ⟨g,pre.length,none⟩) xs.length c,.slice A1 l1.length c1,.int .u64 a2] w fun e w'=>e=.returned (.bool r1)∧r2.length=xs.length∧Seg w' g pre r2 post∧KeepBut w w' g none∧Below g w w':=by
 have HS:=Aside0.mk hb
 have HV:=Aside0.mk hv
 have HK:=Aside0.mk (KeepBut.refl w g none)
 have HW:=Aside0.mk (Below.refl g w)
 clear hb hv
 have H':=Aside0.mk (show whole_subtract.l0 k xs l1 a2 0 0 l1 (l1.length:Int) 0=some (r1,r2) from h)
 clear h
 go_enter Tryz.func227,Tryz.ntmps227
 go_wp2
 go_loopg [7,8,16] k (fun kq v7 v8 v16 w'=>∃(y:List Int) (x7 x8 x16:Int),v7=.int .u64 x7∧v8=.int .u64 x8∧v16=.int .i64 x16∧Aside0 (whole_subtract.l0 kq y l1 a2 x7 x8 l1 (l1.length:Int) x16=some (r1,r2))∧Aside0 (kq≤k)∧Aside0 (y.length=xs.length)∧Aside0 (Seg w' g pre y post)∧Aside0 (KeepBut w w' g none)∧Aside0 (Below g w w'))
 case atStart=>exact⟨xs,0,0,0,rfl,rfl,rfl,H',⟨Nat.le_refl _⟩,⟨rfl⟩,HS,HK,HW⟩
 case round=>
  clear H' HS HK HW
  obtain⟨y,x7,x8,x16,rfl,rfl,rfl,HA,HK1,HL,HS,HK,HW⟩:=hrel
  cases gk with
  | zero=>exact absurd HA.out (by simp[whole_subtract.l0])
  | succ k1=>
   have H:=HA.out
   clear HA
   simp only[whole_subtract.l0]at H
   by_cases c4:x16<(l1.length:Int)
   ·rw[if_pos c4]at H
    by_cases c5:0≤x16
    ·rw[if_pos c5,if_pos c4]at H
     obtain⟨⟨aa,ac⟩,A7,H⟩:=Option.bind_eq_some_iff.mp H
     obtain⟨⟨ah,ae⟩,A8,H⟩:=Option.bind_eq_some_iff.mp H
     by_cases c9:x16<(y.length:Int)
     ·simp only[if_pos c9]at H
      obtain⟨⟨ab,af⟩,A10,H⟩:=Option.bind_eq_some_iff.mp H
      simp only at A8 A10 H
      have cw:x16+1≤9223372036854775807:=by have:=(HV.out _ HK.out).2.1;omega
      have B7:=Aside0.mk A7
      rw[show wrap64 (x16+1)=x16+1 from IntWalk.wrap64_in _ ⟨Z0,cw⟩]at H
      have H2:=Aside0.mk H
      have hx8:=bits_Add64.run A8
      have ai:=bits_Sub64.run A10
      clear A7 A8 A10 H
      obtain⟨ad,rfl,hx⟩:=Kd.at_int (HV.out _ HK.out) x16 c5 c4
      have hu:=HS.out.cell x16 c5 c9
      have hf:=HS.out.free (pre.length+x16.toNat)
      have hp:=Aside0.mk (HS.out.put x16 ab c5 c9)
      have c9':x16<(xs.length:Int):=by rw[←HL.out];exact c9
      go_wp2_with (first|(go_at_call 154;refine(bits_Mul64.calls _ _ aa ac _ B7.out).mono ?_;rintro e w' ⟨rfl,⟨nd,rfl⟩⟩))
      go_roundg k1
      case measure=>have:=HK1.out;omega
      case rel=>exact⟨y.set x16.toNat ab,IntKind.u64.wrap (aa+ae),af,x16+1,rfl,rfl,rfl,H2,⟨Y3⟩,⟨by rw[List.length_set];exact HL.out⟩,hp,⟨HK.out.set_ _ _⟩,⟨(pw_below_drewN HW.out _).setCell (Nat.le_refl _) _⟩⟩
     simp only[if_neg c9]at H;exact absurd H Z1
    rw[if_neg c5]at H;exact absurd H Z1
   rw[if_neg c4]at H
   by_cases c18:(l1.length:Int)<(y.length:Int)
   ·rw[if_pos Z0,if_pos c18]at H
    obtain⟨⟨ag,aj⟩,A19,H⟩:=Option.bind_eq_some_iff.mp H
    simp only[Option.some.injEq,Prod.mk.injEq]at H
    obtain⟨rfl,rfl⟩:=H
    have ak:=bits_Sub64.run A19
    clear A19
    have hu:=HS.out.cell (l1.length:Int) Z0 c18
    have hf:=HS.out.free (pre.length+l1.length)
    have hp:=Aside0.mk (HS.out.put (l1.length:Int) ag Z0 c18)
    simp only[Int.toNat_natCast]at hu hp
    have c18':l1.length<xs.length:=by have:=HL.out;omega
    go_wp2
    go_ret
    exact⟨rfl,by simpa using HL.out,by simpa using hp.out,HK.out.set_ _ _,HW.out.setCell (Nat.le_refl _) _⟩
   rw[if_pos Z0,if_neg c18]at H;exact absurd H Z1
theorem add_seg (k:Nat) (g c:Nat) (pre post:List Value) (xs:List Int) (A1:Option Addr) (c1:Nat) (l1:List Int) (r2:List Int) (w:World) (hb:Seg w g pre xs post)
  (hv:∀W',KeepBut w W' g none→Kd.C (Kd.int .u64) W' A1 l1.length l1) (h:whole_add.f k xs l1=some r2) :
  Calls Tryz.prog 228 #[.slice (some ⟨g,pre.length,none⟩) xs.length c,.slice A1 l1.length c1] w fun e w'=>e=.returned (.tuple #[])∧r2.length=xs.length∧Seg w' g pre r2 post∧KeepBut w w' g none∧Below g w w':=by
 have HS:=Aside0.mk hb
 have HV:=Aside0.mk hv
 have HK:=Aside0.mk (KeepBut.refl w g none)
 have HW:=Aside0.mk (Below.refl g w)
 clear hb hv
 have H':=Aside0.mk (show whole_add.l0 k xs l1 0 l1 (l1.length:Int) 0=some r2 from h)
 clear h
 go_enter Tryz.func228,Tryz.ntmps228
 go_wp2
 go_loopg [4,9] k (fun kq v4 v9 w'=>∃(y:List Int) (x4 x9:Int),v4=.int .u64 x4∧v9=.int .i64 x9∧Aside0 (whole_add.l0 kq y l1 x4 l1 (l1.length:Int) x9=some r2)∧Aside0 (kq≤k)∧Aside0 (y.length=xs.length)∧Aside0 (Seg w' g pre y post)∧Aside0 (KeepBut w w' g none)∧Aside0 (Below g w w'))
 case atStart=>exact⟨xs,0,0,rfl,rfl,H',⟨Nat.le_refl _⟩,⟨rfl⟩,HS,HK,HW⟩
 case round=>
  clear H' HS HK HW
  obtain⟨y,x4,x9,rfl,rfl,HA,HK1,HL,HS,HK,HW⟩:=hrel
  cases gk with
  | zero=>exact absurd HA.out (by simp[whole_add.l0])
  | succ k1=>
   have H:=HA.out
   clear HA
   simp only[whole_add.l0]at H
   by_cases c4:x9<(l1.length:Int)
   ·rw[if_pos c4]at H
    by_cases c5:0≤x9
    ·rw[if_pos c5,if_pos c4]at H
     by_cases c9:x9<(y.length:Int)
     ·simp only[if_pos c9]at H
      obtain⟨⟨aa,ab⟩,A10,H⟩:=Option.bind_eq_some_iff.mp H
      simp only at A10 H
      have cw:x9+1≤9223372036854775807:=by have:=(HV.out _ HK.out).2.1;omega
      rw[show wrap64 (x9+1)=x9+1 from IntWalk.wrap64_in _ ⟨Z0,cw⟩]at H
      have H2:=Aside0.mk H
      have ac:=bits_Add64.run A10
      clear A10 H
      obtain⟨ad,rfl,hx⟩:=Kd.at_int (HV.out _ HK.out) x9 c5 c4
      have hu:=HS.out.cell x9 c5 c9
      have hf:=HS.out.free (pre.length+x9.toNat)
      have hp:=Aside0.mk (HS.out.put x9 aa c5 c9)
      have c9':x9<(xs.length:Int):=by rw[←HL.out];exact c9
      go_wp2
      go_roundg k1
      case measure=>have:=HK1.out;omega
      case rel=>exact⟨y.set x9.toNat aa,ab,x9+1,rfl,rfl,H2,⟨Y3⟩,⟨by rw[List.length_set];exact HL.out⟩,hp,⟨HK.out.set_ _ _⟩,⟨HW.out.setCell (Nat.le_refl _) _⟩⟩
     simp only[if_neg c9]at H;exact absurd H Z1
    rw[if_neg c5]at H;exact absurd H Z1
   rw[if_neg c4]at H
   by_cases c18:(l1.length:Int)<(y.length:Int)
   ·rw[if_pos Z0,if_pos c18]at H
    simp only[Option.some.injEq]at H
    subst H
    have hu:=HS.out.cell (l1.length:Int) Z0 c18
    have hf:=HS.out.free (pre.length+l1.length)
    have hp:=Aside0.mk (HS.out.put (l1.length:Int) (IntKind.u64.wrap ((rd y (l1.length:Int))+x4)) Z0 c18)
    simp only[Int.toNat_natCast]at hu hp
    have c18':l1.length<xs.length:=by have:=HL.out;omega
    go_wp2
    go_end0
    exact⟨rfl,by simpa using HL.out,by simpa using hp.out,HK.out.set_ _ _,HW.out.setCell (Nat.le_refl _) _⟩
   rw[if_pos Z0,if_neg c18]at H;exact absurd H Z1
def quo_fix:Nat→Int→Int→Int→Int→Int→Option Int
 | 0,_,_,_,_,_=>none
 | k+1,guess,rest,vn2,vn1,un2=>(bits_Mul64.f guess vn2).bind fun hl=>if hl.1<rest then some guess else if hl.1=rest∧hl.2≤un2 then some guess else
   if IntKind.u64.wrap (rest+vn1)<rest then some (IntKind.u64.wrap (guess-1)) else quo_fix k (IntKind.u64.wrap (guess-1)) (IntKind.u64.wrap (rest+vn1)) vn2 vn1 un2
theorem quo_fix.mono:∀k g r a b c,LeO (quo_fix k g r a b c) (quo_fix (k+1) g r a b c)
 | 0=>fun _ _ _ _ _ r h=>by simp[quo_fix]at h
 | k+1=>by
  intro g r a b c
  have ih:=quo_fix.mono k
  unfold quo_fix
  repeat' first
   | (with_reducible exact ih _ _ _ _ _)
   | (with_reducible exact LeO.refl _)
   | (with_reducible refine LeO.ite ?_ ?_)
   | (with_reducible refine LeO.bind ?_ (fun _=>?_))
   | exact ih _ _ _ _ _
def quo_guess (k:Nat) (un un1 un2 vn1 vn2:Int):Option Int:=if un<vn1 then(bits_Div64.f k un un1 vn1).bind fun qr=>quo_fix k qr.1 qr.2 vn2 vn1 un2 else some 18446744073709551615
def splice (u:List Int) (j:Nat) (s:List Int):List Int:=u.take j++s++u.drop (j+s.length)
def quo_go:Nat→List Int→List Int→List Int→Int→Option (List Int×List Int)
 | 0,_,_,_,_=>none
 | k+1,u,v,q,j=>if j<0 then some (u,q) else if j+(v.length:Int)<(u.length:Int)∧j<(q.length:Int)∧2≤v.length then
   (quo_guess k (rd u (j+(v.length:Int))) (rd u (j+(v.length:Int)-1)) (rd u (j+(v.length:Int)-2)) (rd v ((v.length:Int)-1)) (rd v ((v.length:Int)-2))).bind fun g=>
   (whole_subtract.f k ((u.drop j.toNat).take (v.length+1)) v g).bind fun bs=>if bs.1=true then
    (whole_add.f k bs.2 v).bind fun s=>quo_go k (splice u j.toNat s) v (q.set j.toNat (IntKind.u64.wrap (g-1))) (j-1)
   else quo_go k (splice u j.toNat bs.2) v (q.set j.toNat g) (j-1)
  else none
def whole_amount_quo.f (k:Nat) (a b:List Int):Option (List Int×List Int):=
 (whole_amount_cmp.f k a b).bind fun c=>if c<0 then some ([],a) else if b.length=1 then
  (whole_amount_byLimb.f k a (rd b 0)).bind fun qr=>(whole_trimmed.f k [qr.2]).bind fun r=>some (qr.1,r)
 else if b.length<a.length+1∧2≤b.length∧a.length<17592186044416 then
  (bits_LeadingZeros64.f (rd b ((b.length:Int)-1))).bind fun s=>if 0≤s∧s≤64 then(whole_amount_up.f k b s).bind fun v=>(whole_amount_up.f k a s).bind fun u=>
  if b.length≤v.length∧b.length≤u.length then
  (quo_go k u (v.take b.length) (List.replicate (a.length-b.length+1) 0) ((a.length:Int)-(b.length:Int))).bind fun uq=>
  (whole_trimmed.f k uq.2).bind fun q=>(whole_trimmed.f k (uq.1.take b.length)).bind fun r0=>(whole_amount_down.f k r0 s).bind fun r=>some (q,r)
  else none else none
 else none
theorem minfo59q:(Tryz.prog.info? 91).map (fun i=>(i.zero,i.size,i.bytes))=some (some (.int .u64 0),1,8):=by kernel_rfl
set_option maxHeartbeats 4000000 in
theorem quo_less (k:Nat) (P0_:Nat→Prop) (A0:Option Addr) (c0:Nat) (l0:List Int) (A1:Option Addr) (c1:Nat) (l1:List Int) (w:World) (hs0:Kd.V (Kd.int .u64) 91 w w.heap.size (fun k_=>P0_ k_) (.slice A0 l0.length c0) l0) (hr1:Kd.C (Kd.int .u64) w A1 l1.length l1) (hc1:l1.length≤c1) (c:Int)
  (hc:whole_amount_cmp.f k l0 l1=some c) (hlt:c<0) :
  Calls Tryz.prog 172 #[.slice A0 l0.length c0,.slice A1 l1.length c1] w fun e w'=>∃v0_ v1_:Value,e=.returned (.tuple #[v0_,v1_])∧Kd.V (Kd.int .u64) 91 w' w.heap.size (fun k_=>(P0_ k_∨w.heap.size≤k_)) v0_ []∧Kd.V (Kd.int .u64) 91 w' w.heap.size (fun k_=>(P0_ k_∨w.heap.size≤k_)) v1_ l0∧Below w.heap.size w w':=by
 have h0:=Kd.V_reads' hs0
 go_enter Tryz.func172,Tryz.ntmps172
 go_wp2_with (first|(go_at_call 106;refine(whole_amount_cmp.calls k _ _ l0 _ _ l1 c _ h0.2.2 h0.2.1 hr1 hc1 hc).mono ?_;rintro e w1 ⟨rfl,hd⟩;have HB:=Aside0.mk hd.below;clear hd))
 go_ret2
 exact⟨_,_,rfl,Kd.V_nil _ _ _ _ _,Kd.V_mono (Kd.V_below hs0 HB.out) (fun _ h=>.inl h),HB.out⟩
set_option maxHeartbeats 4000000 in
theorem quo_one (k:Nat) (P0_:Nat→Prop) (A0:Option Addr) (c0:Nat) (l0:List Int) (A1:Option Addr) (c1:Nat) (l1:List Int) (w:World) (hs0:Kd.V (Kd.int .u64) 91 w w.heap.size (fun k_=>P0_ k_) (.slice A0 l0.length c0) l0) (hr1:Kd.C (Kd.int .u64) w A1 l1.length l1) (hc1:l1.length≤c1) (c:Int) (q r2:List Int) (r:Int)
  (hc:whole_amount_cmp.f k l0 l1=some c) (hlt:¬c<0) (h1:l1.length=1) (hq:whole_amount_byLimb.f k l0 (rd l1 0)=some (q,r)) (hr:whole_trimmed.f k [r]=some r2) :
  Calls Tryz.prog 172 #[.slice A0 l0.length c0,.slice A1 l1.length c1] w fun e w'=>∃v0_ v1_:Value,e=.returned (.tuple #[v0_,v1_])∧Kd.V (Kd.int .u64) 91 w' w.heap.size (fun k_=>(P0_ k_∨w.heap.size≤k_)) v0_ q∧Kd.V (Kd.int .u64) 91 w' w.heap.size (fun k_=>(P0_ k_∨w.heap.size≤k_)) v1_ r2∧Below w.heap.size w w':=by
 have h0:=Kd.V_reads' hs0
 have b1:((l1.length:Int)==1)=true:=by rw[h1];rfl
 have b1':(l1.length==1)=true:=by rw[h1];rfl
 have HL:=Aside0.mk h1
 have hl0:0<l1.length:=by omega
 obtain⟨ad,rfl,hx⟩:=Kd.at_int hr1 0 Z0 Z0
 have hxx:∀w1,Below w.heap.size w w1→w1.cell? ad=some (.int .u64 (rd l1 0)):=fun w1 hb=>by
  have:=(hb.cell (World.block_lt_of_cell? w _ hx)).trans hx
  rwa [show(0:Int).toNat=0 from rfl,Addr.add_zero']at this
 have HX:=Aside0.mk hxx
 clear hx hxx h1
 go_enter Tryz.func172,Tryz.ntmps172
 go_wp2_with (first
  | (go_at_call 106;refine(whole_amount_cmp.calls k _ _ l0 _ _ l1 c _ h0.2.2 h0.2.1 hr1 hc1 hc).mono ?_;rintro e w1 ⟨rfl,hd⟩;have HB:=Aside0.mk hd.below;clear hd;have hx0:=HX.out _ HB.out)
  | (go_at_call 87;refine(whole_amount_byLimb.calls k _ _ l0 (rd l1 0) q r _ (Kd.C_below h0.2.2 HB.out) h0.2.1 hq).mono ?_;rintro e w2 ⟨v0,rfl,hv0,hb2⟩;have HV0:=Aside0.mk hv0;have HB2:=Aside0.mk (HB.out.trans (hb2.mono HB.out.size));clear hv0 hb2)
  | (go_at_call 79;refine(whole_trimmed.calls k (fun k_=>w.heap.size≤k_) _ 1 [r] r2 _ (Seg.V (pre:=[]) (post:=[]) (xs:=[r]) (g:=w2.heap.size) (blk_new w2 _) HB2.out.size (Nat.le_refl 1) Z1) hr).mono ?_;rintro e w3 ⟨v1,rfl,hv1,hb3⟩;have HV1:=Aside0.mk hv1;have HB3:=Aside0.mk hb3;clear hv1 hb3))
 go_ret2
 have hba:Below w2.heap.size w2 w3:=(below_alloc (Below.refl _ _) _).trans (HB3.out.mono Z1)
 have hB3:Below w.heap.size w w3:=HB2.out.trans (hba.mono HB2.out.size)
 refine⟨_,_,rfl,Kd.V_mono (Kd.V_below HV0.out hba) (fun k_ hk=>.inr (Nat.le_trans HB.out.size hk)),Kd.V_mono HV1.out (fun k_ hk=>.inr (hk.elim id (fun h=>Nat.le_trans HB2.out.size (by simp at h;omega)))),hB3⟩
theorem getElem_madeCells (z:Value) (m i:Nat) (hz:z.cells=#[z]) (h:i<m):(madeCells z.cells m)[i]? = some z:=by
 simp[madeCells,hz,h,Nat.mod_one]
theorem Seg.make (w4:World) (m:Nat) (h:m≤17592186044416):∃w5 gq,(Instr.makeSlice 22 (.int .i64 (m:Int)) (.int .i64 (m:Int))).run Tryz.prog w4=.ok (.slice (some ⟨gq,0,none⟩) m m) w5∧Seg w5 gq [] (List.replicate m 0) []∧Below w4.heap.size w4 w5∧w4.heap.size≤gq:=by
 obtain⟨i0,hi0,hz0,hz1,hz2⟩:=info_parts minfo59q
 have hr:=run_make (P:=Tryz.prog) w4 22 91 i0 (.int .u64 0) Tryz.underlying22 hi0 hz0 .i64 .i64 m m Z0 Z0 (by rw[hz2];omega) Z0
 simp only[Int.toNat_natCast,hz1,Nat.mul_one]at hr
 refine⟨_,_,hr,?_,below_alloc (Below.refl _ _) _,Nat.le_refl _⟩
 have he:madeCells (Value.int .u64 0).cells m=([]++(List.replicate m (0:Int)).map (Value.int .u64)++[]).toArray:=by
  apply Array.ext_getElem?
  intro i
  by_cases hi:i<m
  ·rw[getElem_madeCells _ _ _ rfl hi];simp[hi]
  rw[Array.getElem?_eq_none (by rw[size_madeCells];omega)];simp[hi]
 rw[he]
 exact blk_new w4 _
theorem Seg.cutTo {W:World} {g:Nat} {xs:List Int} {post:List Value} (h:Seg W g [] xs post) (n:Nat):Seg W g [] (xs.take n) ((xs.drop n).map (Value.int .u64)++post):=by
 unfold Seg at *
 rw[h]
 congr 3
 rw[List.nil_append,List.nil_append,←List.append_assoc,←List.map_append,List.take_append_drop]
theorem Seg.mid {W:World} {g:Nat} {a b c:List Int} {post:List Value}:Seg W g [] (a++b++c) post↔Seg W g (a.map (Value.int .u64)) b (c.map (Value.int .u64)++post):=by
 unfold Seg
 simp only[List.map_append,List.nil_append,List.append_assoc]
theorem splice_self (u:List Int) (j n:Nat) (h:j+n≤u.length):splice u j ((u.drop j).take n)=u:=by
 unfold splice
 rw[List.length_take,List.length_drop,Nat.min_eq_left Z0]
 rw[←List.drop_drop,List.append_assoc,List.take_append_drop,List.take_append_drop]
theorem splice_len (u:List Int) (j:Nat) (s:List Int) (h:j+s.length≤u.length):(splice u j s).length=u.length:=by
 unfold splice
 simp only[List.length_append,List.length_take,List.length_drop]
 omega
theorem sub_at (k j n gu cu gv cv:Nat) (U v:List Int) (pu pv:List Value) (g:Int) (b:Bool) (U1:List Int) (W:World) (hu:Seg W gu [] U pu) (hv:Seg W gv [] v pv) (hne:gv≠gu) (hj:j+n+1≤U.length) (hn:n≤v.length) (hm:n≤9223372036854775807)
  (h:whole_subtract.f k ((U.drop j).take (n+1)) (v.take n) g=some (b,U1)) :
  Calls Tryz.prog 227 #[.slice (some ⟨gu,j,none⟩) (n+1) cu,.slice (some ⟨gv,0,none⟩) n cv,.int .u64 g] W fun e w'=>e=.returned (.bool b)∧U1.length=n+1∧Seg w' gu [] (splice U j U1) pu∧KeepBut W w' gu none∧Below gu W w':=by
 have hx:((U.drop j).take (n+1)).length=n+1:=by rw[List.length_take,List.length_drop];omega
 have hp:((U.take j).map (Value.int .u64)).length=j:=by rw[List.length_map,List.length_take];omega
 have hvl:(v.take n).length=n:=by rw[List.length_take];omega
 have hu':=hu
 rw[←splice_self U j (n+1) Z0]at hu'
 unfold splice at hu'
 rw[Seg.mid]at hu'
 have:=subtract_seg k gu cu _ _ _ (some ⟨gv,0,none⟩) cv (v.take n) g b U1 W hu' (fun W' hk=>Seg.C (pre:=[]) ((hv.keep hk hne).cutTo n) Z0) h
 rw[hp,hx,hvl]at this
 refine this.mono ?_
 rintro e w' ⟨he,hl,hs,hk⟩
 refine⟨he,hl,?_,hk⟩
 unfold splice
 rw[Seg.mid,hl]
 exact hs
theorem add_at (k j n gu cu gv cv:Nat) (U v:List Int) (pu pv:List Value) (U1 s:List Int) (W:World) (hu:Seg W gu [] (splice U j U1) pu) (hv:Seg W gv [] v pv) (hne:gv≠gu) (hj:j+n+1≤U.length) (hl:U1.length=n+1) (hn:n≤v.length) (hm:n≤9223372036854775807)
  (h:whole_add.f k U1 (v.take n)=some s) :
  Calls Tryz.prog 228 #[.slice (some ⟨gu,j,none⟩) (n+1) cu,.slice (some ⟨gv,0,none⟩) n cv] W fun e w'=>e=.returned (.tuple #[])∧s.length=n+1∧Seg w' gu [] (splice U j s) pu∧KeepBut W w' gu none∧Below gu W w':=by
 have hp:((U.take j).map (Value.int .u64)).length=j:=by rw[List.length_map,List.length_take];omega
 have hvl:(v.take n).length=n:=by rw[List.length_take];omega
 have hu':=hu
 unfold splice at hu'
 rw[Seg.mid]at hu'
 have:=add_seg k gu cu _ _ _ (some ⟨gv,0,none⟩) cv (v.take n) s W hu' (fun W' hk=>Seg.C (pre:=[]) ((hv.keep hk hne).cutTo n) Z0) h
 rw[hp,hl,hvl]at this
 refine this.mono ?_
 rintro e w' ⟨he,hl',hs,hk⟩
 refine⟨he,hl',?_,hk⟩
 unfold splice
 rw[Seg.mid,hl']
 exact hs
theorem cut_mid (gu:Nat) (n c:Nat) (j h:Int) (h0:0≤j) (h1:j<h) (h2:h≤c) (W:World) :
  (Instr.slice 22 (.slice (some ⟨gu,0,none⟩) n c) (some (.int .i64 j)) (some (.int .i64 h)) none).run Tryz.prog W=.ok (.slice (some ⟨gu,j.toNat,none⟩) (h-j).toNat (c-j.toNat)) W:=by
 obtain⟨i0,hi,hz0,hz1,hz2⟩:=info_parts minfo59q
 have hel:Tryz.prog.elem 22=91:=by simp[Program.elem,Tryz.underlying22]
 have hu:Tryz.prog.underlying 22=some (.slice (Tryz.prog.elem 22)):=by rw[hel];exact Tryz.underlying22
 rw[run_slice_lh W 22 _ n c hu .i64 .i64 j h h0 Z0 h2,hel]
 have e1:c≠j.toNat:=by omega
 have e2:(Addr.add ⟨gu,0,none⟩ j.toNat)=⟨gu,j.toNat,none⟩:=by
  unfold Addr.add
  split<;>simp_all
 have e3:h.toNat-j.toNat=(h-j).toNat:=by omega
 simp[sizeOf,typeInfo,hi,hz1,sliced,Result.andThen,e1,e2,e3]
theorem rd_take (l:List Int) (n:Nat) (i:Int) (h0:0≤i) (h:i<n):rd (l.take n) i=rd l i:=by
 simp[rd,List.getD_eq_getElem?_getD,show i.toNat<n from by omega]
theorem quo_more (k:Nat) (P0_:Nat→Prop) (A0:Option Addr) (c0:Nat) (l0:List Int) (A1:Option Addr) (c1:Nat) (l1:List Int) (w:World) (hs0:Kd.V (Kd.int .u64) 91 w w.heap.size (fun k_=>P0_ k_) (.slice A0 l0.length c0) l0) (hr1:Kd.C (Kd.int .u64) w A1 l1.length l1) (hc1:l1.length≤c1) (c s:Int) (v u rU rQ q r0 r:List Int)
  (hc:whole_amount_cmp.f k l0 l1=some c) (hlt:¬c<0) (h1:¬l1.length=1) (h2:l1.length<l0.length+1) (h3:2≤l1.length) (h4:l0.length<17592186044416)
  (hs:bits_LeadingZeros64.f (rd l1 ((l1.length:Int)-1))=some s) (hs1:0≤s) (hs2:s≤64) (hv:whole_amount_up.f k l1 s=some v) (hu:whole_amount_up.f k l0 s=some u) (hv1:l1.length≤v.length) (hu1:l1.length≤u.length)
  (hg:quo_go k u (v.take l1.length) (List.replicate (l0.length-l1.length+1) 0) ((l0.length:Int)-(l1.length:Int))=some (rU,rQ))
  (hq:whole_trimmed.f k rQ=some q) (hr0:whole_trimmed.f k (rU.take l1.length)=some r0) (hr:whole_amount_down.f k r0 s=some r) :
  Calls Tryz.prog 172 #[.slice A0 l0.length c0,.slice A1 l1.length c1] w fun e w'=>∃v0_ v1_:Value,e=.returned (.tuple #[v0_,v1_])∧Kd.V (Kd.int .u64) 91 w' w.heap.size (fun k_=>(P0_ k_∨w.heap.size≤k_)) v0_ q∧Kd.V (Kd.int .u64) 91 w' w.heap.size (fun k_=>(P0_ k_∨w.heap.size≤k_)) v1_ r∧Below w.heap.size w w':=by
 have h0:=Kd.V_reads' hs0
 have b1:((l1.length:Int)==1)=false:=by rw[beq_eq_false_iff_ne];omega
 have b1':(l1.length==1)=false:=by rw[beq_eq_false_iff_ne];omega
 have hl0:(l1.length:Int)-1<l1.length:=by omega
 have hl1:0≤(l1.length:Int)-1:=by omega
 have wl1:wrap64 ((l1.length:Int)-1)=(l1.length:Int)-1:=IntWalk.wrap64_in _ ⟨Z0,Z0⟩
 obtain⟨ad,rfl,hx⟩:=Kd.at_int hr1 ((l1.length:Int)-1) Z0 Z0
 have hxx:∀w1,Below w.heap.size w w1→w1.cell? (ad.add (l1.length-1))=some (.int .u64 (rd l1 ((l1.length:Int)-1))):=fun w1 hb=>by
  rw[show l1.length-1=((l1.length:Int)-1).toNat from by omega]
  exact(hb.cell (World.block_lt_of_cell? w _ hx)).trans hx
 have HX:=Aside0.mk hxx
 clear hx hxx h1 wl1
 go_enter Tryz.func172,Tryz.ntmps172
 go_wp2_with (first
  | (go_at_call 106;refine(whole_amount_cmp.calls k _ _ l0 _ _ l1 c _ h0.2.2 h0.2.1 hr1 hc1 hc).mono ?_;rintro e w1 ⟨rfl,hd⟩;have HB:=Aside0.mk hd.below;clear hd;have hx0:=HX.out _ HB.out)
  | (go_at_call 174;refine(bits_LeadingZeros64.calls _ s _ hs).mono ?_;rintro e w2 ⟨rfl,hd⟩;have HB2:=Aside0.mk (HB.out.trans (hd.below.mono HB.out.size));clear hd hx0)
  | (go_at_call 226;(with_reducible refine(whole_amount_up.calls k _ _ l1 s v _ ?sv hc1 hv).mono ?_);(case sv=>exact Kd.C_below hr1 HB2.out);rintro e w3 ⟨vv,rfl,hR,hb⟩;obtain⟨gv,cv,pv,rfl,hgv,hlv,hcv,hsv⟩:=Seg.of_R hR Z0;have HSV:=Aside0.mk hsv;have HB3:=Aside0.mk (HB2.out.trans (hb.mono HB2.out.size));have HGV:=Aside0.mk (Nat.le_trans HB2.out.size hgv);clear hR hb hsv hgv;obtain⟨i0,hi0,_,_,_⟩:=info_parts minfo59q;have hcut:=cut_to (P:=Tryz.prog) 22 91 .i64 Tryz.underlying22 hi0 (some ⟨gv,0,none⟩) v.length cv (l1.length:Int) Z0 Z0 hlv;simp only[Int.toNat_natCast]at hcut)
  | (go_at_call 226;(with_reducible refine(whole_amount_up.calls k _ _ l0 s u _ ?su h0.2.1 hu).mono ?_);(case su=>exact Kd.C_below h0.2.2 HB3.out);rintro e w4 ⟨uu,rfl,hR,hb⟩;obtain⟨gu,cu,pu,rfl,hgu,hlu,hcu,hsu⟩:=Seg.of_R hR Z0;have HNE:=Aside0.mk (show gv≠gu from by have:=HSV.out.lt;omega);have af:=HSV.out;have HB4:=Aside0.mk (HB3.out.trans (hb.mono HB3.out.size));have HGU:=Aside0.mk (Nat.le_trans HB3.out.size hgu);obtain⟨w5,gq,hmk,hsq,hbq,hgq⟩:=Seg.make w4 (l0.length-l1.length+1) Z0;rw[show((l0.length-l1.length+1:Nat):Int)=(l0.length:Int)-(l1.length:Int)+1 from by omega]at hmk;have ah:=Aside0.mk ((af.below hb).below hbq);have ai:=Aside0.mk (hsu.below hbq);have aj:=Aside0.mk hsq;have HB5:=Aside0.mk (HB4.out.trans (hbq.mono HB4.out.size));have HNQ:=Aside0.mk (show gq≠gv∧gq≠gu from by have h1:=(af.below hb).lt;have h2:=hsu.lt;omega);have HGQ:=Aside0.mk (Nat.le_trans HB4.out.size hgq);clear hR hb hsu hgu hcut af hsq hbq hgq))
 clear hmk
 have hVl:(v.take l1.length).length=l1.length:=by rw[List.length_take];omega
 have HG:=Aside0.mk hg
 clear hg
 go_loopg [14] k (fun kq v14 w'=>∃(U Q:List Int) (j:Int),v14=.int .i64 j∧Aside0 (quo_go kq U (v.take l1.length) Q j=some (rU,rQ))∧Aside0 (kq≤k)∧Aside0 (U.length=u.length)∧Aside0 (Q.length=l0.length-l1.length+1)∧Aside0 (Seg w' gv [] v pv)∧Aside0 (Seg w' gu [] U pu)∧Aside0 (Seg w' gq [] Q [])∧Aside0 (Below w.heap.size w w'))
 case atStart=>exact⟨u,_,_,rfl,HG,⟨Nat.le_refl _⟩,⟨rfl⟩,⟨Z1⟩,ah,ai,aj,HB5⟩
 case round=>
  clear HG ah ai aj HB5 HSV
  obtain⟨U,Q,j,rfl,HA,HK1,HLU,HLQ,HSV,HSU,HSQ,HB⟩:=hrel
  cases gk with
  | zero=>exact absurd HA.out (by simp[quo_go])
  | succ k1=>
   have H:=HA.out
   clear HA
   simp only[quo_go,hVl,HLU.out,HLQ.out]at H
   by_cases cj:j<0
   ·rw[if_pos cj,Option.some.injEq,Prod.mk.injEq]at H
    obtain⟨rfl,rfl⟩:=H
    have HBW:∀W,Below wr.heap.size wr W→w.heap.size≤W.heap.size:=fun W hb=>Nat.le_trans HB.out.size hb.size
    have TQ:=Aside0.mk (show ∀W,Below wr.heap.size wr W→Calls Tryz.prog 79 #[.slice (some ⟨gq,0,none⟩) (l0.length-l1.length+1) (l0.length-l1.length+1)] W fun e w'=>∃v0_:Value,e=.returned (v0_)∧Kd.V (Kd.int .u64) 91 w' w.heap.size (fun k_=>w.heap.size≤k_) v0_ q∧Below W.heap.size W w'∧Below wr.heap.size wr w' from fun W hb=>by
     have:=whole_trimmed.calls k (fun k_=>w.heap.size≤k_) (some ⟨gq,0,none⟩) (l0.length-l1.length+1) Q q W (Seg.V (pre:=[]) (HSQ.out.below hb) HGQ.out F8 F8) hq
     rw[HLQ.out]at this
     refine this.mono ?_
     rintro e w' ⟨v,he,hv,hb'⟩
     exact⟨v,he,Kd.V_lower (Kd.V_mono hv (fun k_ hk=>hk.elim id (fun h=>Nat.le_trans (HBW W hb) h))) (HBW W hb),hb',hb.trans (hb'.mono hb.size)⟩)
    have TU:=Aside0.mk (show ∀W,Below wr.heap.size wr W→Calls Tryz.prog 79 #[.slice (some ⟨gu,0,none⟩) l1.length cu] W fun e w'=>∃v0_:Value,e=.returned (v0_)∧(∃A c,v0_=.slice A r0.length c∧r0.length≤c∧Kd.C (Kd.int .u64) w' A r0.length r0)∧Below W.heap.size W w'∧Below wr.heap.size wr w' from fun W hb=>by
     have hl:(U.take l1.length).length=l1.length:=by rw[List.length_take,HLU.out];omega
     have:=whole_trimmed.calls k (fun k_=>w.heap.size≤k_) (some ⟨gu,0,none⟩) cu (U.take l1.length) r0 W (Seg.V (pre:=[]) ((HSU.out.below hb).cutTo _) HGU.out (by rw[hl];omega) (by rw[hl];omega)) hr0
     rw[hl]at this
     refine this.mono ?_
     rintro e w' ⟨v,he,hv,hb'⟩
     obtain⟨A,c,rfl,hc,-⟩:=id hv
     exact⟨_,he,⟨A,c,rfl,hc,(Kd.V_reads' hv).2.2⟩,hb',hb.trans (hb'.mono hb.size)⟩)
    have TD:=Aside0.mk (show ∀W A c,Below wr.heap.size wr W→r0.length≤c→Kd.C (Kd.int .u64) W A r0.length r0→Calls Tryz.prog 229 #[.slice A r0.length c,.int .u64 s] W fun e w'=>∃v0_:Value,e=.returned (v0_)∧Kd.V (Kd.int .u64) 91 w' w.heap.size (fun k_=>w.heap.size≤k_) v0_ r∧Below W.heap.size W w'∧Below wr.heap.size wr w' from fun W A c hb hcl hC=>by
     refine(whole_amount_down.calls k A c r0 s r W hC hcl hr).mono ?_
     rintro e w' ⟨v,he,hv,hb'⟩
     exact⟨v,he,Kd.V_lower (Kd.V_mono hv (fun k_ hk=>Nat.le_trans (HBW W hb) hk)) (HBW W hb),hb',hb.trans (hb'.mono hb.size)⟩)
    have HBC:=Aside0.mk (Below.refl wr.heap.size wr)
    obtain⟨i1,hi1,_,_,_⟩:=info_parts minfo59q
    have hcut:=cut_to (P:=Tryz.prog) 22 91 .i64 Tryz.underlying22 hi1 (some ⟨gu,0,none⟩) u.length cu (l1.length:Int) Z0 Z0 hlu
    simp only[Int.toNat_natCast]at hcut
    clear hr hq hr0 HBW
    go_upto_region 28 with(fail)
    go_region_with (first
     | (go_at_call_of 79 gq;refine(TQ.out _ ?hbt).mono ?_;(case hbt=>(first|exact HBC.out|exact pw_below_drewN HBC.out _|exact pw_below_drewN HBC.out 1));rintro e w8 ⟨vq,rfl,hvq,hb,hbc⟩;(try replace HCU:=Aside0.mk (Kd.C_below HCU.out hb));(try replace HVR:=Aside0.mk (Kd.V_below HVR.out hb));have HVQ:=Aside0.mk hvq;clear HBC;have HBC:=Aside0.mk hbc;clear hvq hb hbc)
     | (go_at_call_of 79 gu;refine(TU.out _ ?hbt).mono ?_;(case hbt=>(first|exact HBC.out|exact pw_below_drewN HBC.out _|exact pw_below_drewN HBC.out 1));rintro e w8 ⟨vu,rfl,⟨au,cu',rfl,hcu',hc⟩,hb,hbc⟩;(try replace HVQ:=Aside0.mk (Kd.V_below HVQ.out hb));have HCU:=Aside0.mk hc;have HCC:=Aside0.mk hcu';clear HBC;have HBC:=Aside0.mk hbc;clear hb hc hcu' hbc)
     | (go_at_call 229;refine(TD.out _ _ _ ?hbt HCC.out ?hcd).mono ?_;(case hbt=>(first|exact HBC.out|exact pw_below_drewN HBC.out _|exact pw_below_drewN HBC.out 1));(case hcd=>exact HCU.out);rintro e w8 ⟨vr,rfl,hvr,hb,hbc⟩;(try replace HVQ:=Aside0.mk (Kd.V_below HVQ.out hb));have HVR:=Aside0.mk hvr;clear HBC;have HBC:=Aside0.mk hbc;clear hvr hb hbc))
    all_goals go_wp2
    all_goals go_ret2
    all_goals exact⟨_,_,rfl,Kd.V_mono HVQ.out (fun _ h=>.inr h),Kd.V_mono HVR.out (fun _ h=>.inr h),HB.out.trans (HBC.out.mono HB.out.size)⟩
   rw[if_neg cj]at H
   by_cases c1:j+(l1.length:Int)<(u.length:Int)∧j<((l0.length-l1.length+1:Nat):Int)∧2≤l1.length
   ·rw [if_pos c1]at H
    obtain⟨c1,c2,_⟩:=c1
    obtain⟨g,hgs,H⟩:=Option.bind_eq_some_iff.mp H
    obtain⟨⟨b,U1⟩,hsub,H⟩:=Option.bind_eq_some_iff.mp H
    have H:=Aside0.mk H
    have HSB:=Aside0.mk hsub
    clear hsub
    have hu0:=HSU.out.cell0 (j+(l1.length:Int)) Z0 (by rw[HLU.out];omega)
    have hu1:=HSU.out.cell0 (j+(l1.length:Int)-1) Z0 (by rw[HLU.out];omega)
    have hu2:=HSU.out.cell0 (j+(l1.length:Int)-2) Z0 (by rw[HLU.out];omega)
    have hv0:=HSV.out.cell0 ((l1.length:Int)-1) Z0 Z0
    have hv1:=HSV.out.cell0 ((l1.length:Int)-2) Z0 Z0
    rw[←rd_take v l1.length _ Z0 Z0]at hv0 hv1
    rw[show((l1.length:Int)-1).toNat=l1.length-1 from by omega]at hv0
    rw[show(j+(l1.length:Int)-1).toNat=(j+(l1.length:Int)).toNat-1 from by omega]at hu1
    rw[show((l1.length:Int)-2).toNat=l1.length-2 from by omega]at hv1
    generalize ao:rd U (j+(l1.length:Int))=un0 at hu0 hgs
    generalize ap:rd U (j+(l1.length:Int)-1)=un1 at hu1 hgs
    generalize aq:rd U (j+(l1.length:Int)-2)=un2 at hu2 hgs
    generalize ar:rd (v.take l1.length) ((l1.length:Int)-1)=vn1 at hv0 hgs
    generalize av:rd (v.take l1.length) ((l1.length:Int)-2)=vn2 at hv1 hgs
    clear ao ap aq ar av
    have HGS:=Aside0.mk hgs
    clear hgs
    go_wp2
    go_quiet (fail)
    go_upto_if 83 with(fail)
    go_cut [15] (fun v15 wc=>v15=.int .u64 g∧Aside0 (Seg wc gv [] v pv)∧Aside0 (Seg wc gu [] U pu)∧Aside0 (Seg wc gq [] Q [])∧Aside0 (Below w.heap.size w wc))
    case first=>
     replace HGS:=HGS.out
     by_cases cg:un0<vn1
     ·simp only[quo_guess,if_pos cg]at HGS
      obtain⟨⟨g0,t0⟩,hdiv,HGS⟩:=Option.bind_eq_some_iff.mp HGS
      replace HGS:=Aside0.mk HGS
      have HDV:=Aside0.mk hdiv
      clear hdiv
      go_wp2
      go_quiet (first|(go_at_call 159;refine(bits_Div64.calls k1 un0 un1 vn1 g0 t0 _ HDV.out).mono ?_;rintro e w' ⟨rfl,⟨nd,rfl⟩⟩;exact⟨rfl,_,by rw[World.drewN_drewN,Nat.add_assoc]⟩))
      go_wp2
      go_loopg [15,16] k1 (fun kr v15 v16 w'=>∃(x15 x16:Int),v15=.int .u64 x15∧v16=.int .u64 x16∧Aside0 (quo_fix kr x15 x16 vn2 vn1 un2=some g)∧Aside0 (kr≤k1)∧Aside0 (∃m,w'=wr.drewN m))
      case atStart=>exact⟨_,_,rfl,rfl,HGS,⟨Nat.le_refl _⟩,⟨_,by rw[World.drewN_drewN]⟩⟩
      case round=>
       obtain⟨x15,x16,rfl,rfl,HA,HK2,HW⟩:=hrel
       obtain⟨m,rfl⟩:=HW.out
       clear HW
       cases gk with
       | zero=>exact absurd HA.out (by simp[quo_fix])
       | succ k2=>
        have H:=HA.out
        clear HA
        simp only[quo_fix]at H
        obtain⟨⟨hi,lo⟩,hmul,H⟩:=Option.bind_eq_some_iff.mp H
        have HM:=Aside0.mk hmul
        clear hmul
        simp only at H
        by_cases d1:hi<x16
        ·rw[if_pos d1,Option.some.injEq]at H
         subst H
         go_wp2_with (first|(go_at_call 154;refine(bits_Mul64.calls _ _ hi lo _ HM.out).mono ?_;rintro e w' ⟨rfl,⟨nd,rfl⟩⟩))
         go_meet
         case rel=>exact⟨rfl,⟨X7⟩,⟨V7⟩,⟨U7⟩,⟨D6⟩⟩
        rw[if_neg d1]at H
        by_cases d2:hi=x16
        ·subst d2
         by_cases d4:lo≤un2
         ·rw[if_pos ⟨rfl,d4⟩,Option.some.injEq]at H
          subst H
          go_wp2_with (first|(go_at_call 154;refine(bits_Mul64.calls _ _ hi lo _ HM.out).mono ?_;rintro e w' ⟨rfl,⟨nd,rfl⟩⟩))
          go_meet
          case rel=>exact⟨rfl,⟨X7⟩,⟨V7⟩,⟨U7⟩,⟨D6⟩⟩
         rw[if_neg (fun h=>d4 h.2)]at H
         by_cases d3:IntKind.u64.wrap (hi+vn1)<hi
         ·rw[if_pos d3,Option.some.injEq]at H
          subst H
          go_wp2_with (first|(go_at_call 154;refine(bits_Mul64.calls _ _ hi lo _ HM.out).mono ?_;rintro e w' ⟨rfl,⟨nd,rfl⟩⟩))
          go_meet
          case rel=>exact⟨rfl,⟨X7⟩,⟨V7⟩,⟨U7⟩,⟨D6⟩⟩
         rw[if_neg d3]at H
         have H:=Aside0.mk H
         go_wp2_with (first|(go_at_call 154;refine(bits_Mul64.calls _ _ hi lo _ HM.out).mono ?_;rintro e w' ⟨rfl,⟨nd,rfl⟩⟩))
         go_roundg k2
         case measure=>have:=HK2.out;omega
         case rel=>exact⟨_,_,rfl,rfl,H,⟨by have:=HK2.out;omega⟩,⟨m+nd,by first|rfl|simp only[World.drewN_drewN]⟩⟩
        rw[if_neg (fun h=>d2 h.1)]at H
        by_cases d3:IntKind.u64.wrap (x16+vn1)<x16
        ·rw[if_pos d3,Option.some.injEq]at H
         subst H
         go_wp2_with (first|(go_at_call 154;refine(bits_Mul64.calls _ _ hi lo _ HM.out).mono ?_;rintro e w' ⟨rfl,⟨nd,rfl⟩⟩))
         go_meet
         case rel=>exact⟨rfl,⟨X7⟩,⟨V7⟩,⟨U7⟩,⟨D6⟩⟩
        rw[if_neg d3]at H
        have H:=Aside0.mk H
        go_wp2_with (first|(go_at_call 154;refine(bits_Mul64.calls _ _ hi lo _ HM.out).mono ?_;rintro e w' ⟨rfl,⟨nd,rfl⟩⟩))
        go_roundg k2
        case measure=>have:=HK2.out;omega
        case rel=>exact⟨_,_,rfl,rfl,H,⟨by have:=HK2.out;omega⟩,⟨m+nd,by first|rfl|simp only[World.drewN_drewN]⟩⟩
     simp only[quo_guess,if_neg cg,Option.some.injEq]at HGS
     subst HGS
     go_wp2
     go_meet
     case rel=>exact⟨rfl,⟨HSV.out.drewN _⟩,⟨HSU.out.drewN _⟩,⟨HSQ.out.drewN _⟩,⟨pw_below_drewN HB.out _⟩⟩
    case rest=>
     obtain⟨rfl,ac,ak,al,HB1⟩:=hcut
     clear HSV HSU HSQ HB hu0 hu1 hu2 hv0 hv1 HGS
     have hcm:=cut_mid gu u.length cu j (j+(l1.length:Int)+1) Z0 Z0 Z0
     rw[show(j+(l1.length:Int)+1-j).toNat=l1.length+1 from by omega]at hcm
     have HLU':=HLU.out
     have hsa:=fun W hu hv=>sub_at k1 j.toNat l1.length gu (cu-j.toNat) gv cv U v pu pv g b U1 W hu hv HNE.out Z0 Z0 Z0 HSB.out
     have HSA:=Aside0.mk hsa
     clear hsa HLU'
     cases b with
     | true=>
      replace H:=H.out
      clear HSB
      rw[if_pos rfl]at H
      obtain⟨S1,hadd,H⟩:=Option.bind_eq_some_iff.mp H
      have HF:=Aside0.mk H
      clear H
      have HAD:=Aside0.mk hadd
      clear hadd
      go_wp2_with (first
       | (go_at_call 227;refine(HSA.out _ ak.out ac.out).mono ?_;rintro e w6 ⟨rfl,hl1,hs1,hk1,hb1⟩;have HL1:=Aside0.mk hl1;have ae:=Aside0.mk hs1;have aa:=Aside0.mk (ac.out.keep hk1 HNE.out);have ab:=Aside0.mk (al.out.keep hk1 HNQ.out.2);have HB2':=Aside0.mk (HB1.out.trans (hb1.mono HGU.out));clear hl1 hs1 hk1 hb1)
       | (go_at_call 228;refine(add_at k1 j.toNat l1.length gu (cu-j.toNat) gv cv U v pu pv U1 S1 _ ae.out aa.out HNE.out (by have:=HLU.out;omega) HL1.out Z0 Z0 HAD.out).mono ?_;rintro e w7 ⟨rfl,hl1,hs1,hk1,hb1⟩;have HL3:=Aside0.mk hl1;have am:=Aside0.mk hs1;have an:=Aside0.mk (aa.out.keep hk1 HNE.out);have ag:=Aside0.mk (ab.out.keep hk1 HNQ.out.2);have HB3':=Aside0.mk (HB2'.out.trans (hb1.mono HGU.out));have hqc:=ag.out.cell0 j Z0 F8;have hqf:=ag.out.free j.toNat;clear hl1 hs1 hk1 hb1))
      go_roundg k1
      case measure=>have:=HK1.out;omega
      case rel=>
       have hp:=ag.out.put0 j (IntKind.u64.wrap (g-1)) Z0 F8
       exact⟨splice U j.toNat S1,_,_,rfl,HF,⟨Y3⟩,⟨by rw[splice_len _ _ _ (by rw[HL3.out];have:=HLU.out;omega)];exact HLU.out⟩,⟨by rw[List.length_set];exact HLQ.out⟩,⟨by first|exact an.out.far HNQ.out.1.symm _|exact(an.out.drewN _).far HNQ.out.1.symm _⟩,⟨by first|exact am.out.far HNQ.out.2.symm _|exact(am.out.drewN _).far HNQ.out.2.symm _⟩,⟨by first|exact hp|exact hp.drewN _⟩,⟨by first|exact HB3'.out.setCell HGQ.out _|exact(pw_below_drewN HB3'.out _).setCell HGQ.out _⟩⟩
     | false=>
      replace H:=H.out
      clear HSB
      rw[if_neg Z1]at H
      have HF:=Aside0.mk H
      clear H
      go_wp2_with (first
       | (go_at_call 227;refine(HSA.out _ ak.out ac.out).mono ?_;rintro e w6 ⟨rfl,hl1,hs1,hk1,hb1⟩;have HL1:=Aside0.mk hl1;have ae:=Aside0.mk hs1;have aa:=Aside0.mk (ac.out.keep hk1 HNE.out);have ab:=Aside0.mk (al.out.keep hk1 HNQ.out.2);have HB2':=Aside0.mk (HB1.out.trans (hb1.mono HGU.out));have hqc:=ab.out.cell0 j Z0 F8;have hqf:=ab.out.free j.toNat;clear hl1 hs1 hk1 hb1))
      go_roundg k1
      case measure=>have:=HK1.out;omega
      case rel=>
       have hp:=ab.out.put0 j g Z0 F8
       exact⟨splice U j.toNat U1,_,_,rfl,HF,⟨Y3⟩,⟨by rw[splice_len _ _ _ (by rw[HL1.out];have:=HLU.out;omega)];exact HLU.out⟩,⟨by rw[List.length_set];exact HLQ.out⟩,⟨by first|exact aa.out.far HNQ.out.1.symm _|exact(aa.out.drewN _).far HNQ.out.1.symm _⟩,⟨by first|exact ae.out.far HNQ.out.2.symm _|exact(ae.out.drewN _).far HNQ.out.2.symm _⟩,⟨by first|exact hp|exact hp.drewN _⟩,⟨by first|exact HB2'.out.setCell HGQ.out _|exact(pw_below_drewN HB2'.out _).setCell HGQ.out _⟩⟩
   rw[if_neg c1]at H;exact absurd H Z1
theorem whole_amount_quo.calls (k:Nat) (P0_:Nat→Prop) (A0:Option Addr) (c0:Nat) (l0:List Int) (A1:Option Addr) (c1:Nat) (l1:List Int) (r1 r2:List Int) (w:World) (hs0:Kd.V (Kd.int .u64) 91 w w.heap.size (fun k_=>P0_ k_) (.slice A0 l0.length c0) l0) (hr1:Kd.C (Kd.int .u64) w A1 l1.length l1) (hc1:l1.length≤c1) (h:whole_amount_quo.f k l0 l1=some (r1,r2)) :
  Calls Tryz.prog 172 #[.slice A0 l0.length c0,.slice A1 l1.length c1] w fun e w'=>∃v0_ v1_:Value,e=.returned (.tuple #[v0_,v1_])∧Kd.V (Kd.int .u64) 91 w' w.heap.size (fun k_=>(P0_ k_∨w.heap.size≤k_)) v0_ r1∧Kd.V (Kd.int .u64) 91 w' w.heap.size (fun k_=>(P0_ k_∨w.heap.size≤k_)) v1_ r2∧Below w.heap.size w w':=by
 unfold whole_amount_quo.f at h
 obtain⟨c,hc,h⟩:=Option.bind_eq_some_iff.mp h
 by_cases hlt:c<0
 ·rw[if_pos hlt,Option.some.injEq,Prod.mk.injEq]at h
  obtain⟨rfl,rfl⟩:=h
  exact quo_less k P0_ A0 c0 l0 A1 c1 l1 w hs0 hr1 hc1 c hc hlt
 rw[if_neg hlt]at h
 by_cases h1:l1.length=1
 ·rw[if_pos h1]at h
  obtain⟨⟨q,r⟩,hq,h⟩:=Option.bind_eq_some_iff.mp h
  obtain⟨t,ht,h⟩:=Option.bind_eq_some_iff.mp h
  rw[Option.some.injEq,Prod.mk.injEq]at h
  obtain⟨rfl,rfl⟩:=h
  exact quo_one k P0_ A0 c0 l0 A1 c1 l1 w hs0 hr1 hc1 c _ _ r hc hlt h1 hq ht
 rw[if_neg h1]at h
 by_cases h2:l1.length<l0.length+1∧2≤l1.length∧l0.length<17592186044416
 ·rw[if_pos h2]at h
  obtain⟨s,hs,h⟩:=Option.bind_eq_some_iff.mp h
  by_cases h3:0≤s∧s≤64
  ·rw[if_pos h3]at h
   obtain⟨v,hv,h⟩:=Option.bind_eq_some_iff.mp h
   obtain⟨u,hu,h⟩:=Option.bind_eq_some_iff.mp h
   by_cases h4:l1.length≤v.length∧l1.length≤u.length
   ·rw[if_pos h4]at h
    obtain⟨⟨rU,rQ⟩,hg,h⟩:=Option.bind_eq_some_iff.mp h
    obtain⟨q,hq,h⟩:=Option.bind_eq_some_iff.mp h
    obtain⟨r0,hr0,h⟩:=Option.bind_eq_some_iff.mp h
    obtain⟨r,hr,h⟩:=Option.bind_eq_some_iff.mp h
    rw[Option.some.injEq,Prod.mk.injEq]at h
    obtain⟨rfl,rfl⟩:=h
    exact quo_more k P0_ A0 c0 l0 A1 c1 l1 w hs0 hr1 hc1 c s v u rU rQ _ r0 _ hc hlt h1 h2.1 h2.2.1 h2.2.2 hs h3.1 h3.2 hv hu h4.1 h4.2 hg hq hr0 hr
   rw[if_neg h4]at h;cases h
  rw[if_neg h3]at h;cases h
 rw[if_neg h2]at h;cases h
end Go.Proofs.YtncomlmhagaajaaGreatDoor.Mine
namespace Go.Proofs.YtncomlmhagaajaaGreatDoor.PRp
open Go.RowKit Go.Proofs.YtncomlmhagaajaaGreatDoorW.PrintWords Go.Proofs.YtncomlmhagaajaaGreatDoorW.PrintLast Go.Proofs.YtncomlmhagaajaaGreatDoorW.PrintMore
open Go.Proofs.YtncomlmhagaajaaGreatDoor.Mine
attribute [local go_sem] max2_int min2_int max_two min_two max_three min_three max_four min_four
mutual
def whole_Gcd.l0:Nat→List (S25)→List (S25)→Int→Int→Option (Bool×List Int×Int)
 | 0,_,_,_,_=>none
 | k+1,x0,x12,x13,x14=>if x14<x13 then(if 0≤x14 then(if x14<(x12.length:Int) then((whole_of.f k ((rd_T25 x12 x14).f0) ((rd_T25 x12 x14).f1)).bind fun bt275=>((whole_number_long.f bt275.1 bt275.2).bind fun t279=>(if t279=true then(none) else(whole_Gcd.l0 k x0 x12 x13 (wrap64 (x14+1)))))) else(none)) else(none)) else(whole_Gcd.l1 k ([]:List Int) x0 (x0.length:Int) 0)
def whole_Gcd.l1:Nat→List Int→List (S25)→Int→Int→Option (Bool×List Int×Int)
 | 0,_,_,_,_=>none
 | k+1,x6,x23,x24,x25=>if x25<x24 then(if 0≤x25 then(if x25<(x23.length:Int) then((whole_of.f k ((rd_T25 x23 x25).f0) ((rd_T25 x23 x25).f1)).bind fun bt291=>(whole_Gcd.l2 k x6 bt291.1 x23 x24 x25)) else(none)) else(none)) else((whole_signed.f x6 false).bind fun bt280=>((whole_number_told.f bt280.1 bt280.2).bind fun bt284=>(some (bt284.1,bt284.2.1,bt284.2.2))))
def whole_Gcd.l2:Nat→List Int→List Int→List (S25)→Int→Int→Option (Bool×List Int×Int)
 | 0,_,_,_,_,_=>none
 | k+1,x6,x9,x23,x24,x25=>(whole_amount_null.f x9).bind fun t295=>(if t295=true then(whole_Gcd.l1 k x6 x23 x24 (wrap64 (x25+1))) else((whole_amount_quo.f k x6 x9).bind fun bt296=>(whole_Gcd.l2 k x9 bt296.2 x23 x24 x25)))
end
def whole_Gcd.f (k:Nat) (l0:List (S25)):Option (Bool×List Int×Int):=whole_Gcd.l0 k l0 l0 (l0.length:Int) 0
theorem whole_Gcd.calls (k:Nat) (A0:Option Addr) (c0:Nat) (l0:List (S25)) (r1:Bool) (r2:List Int) (r3:Int) (w:World) (hr0:Kd.C k25 w A0 l0.length l0) (hc0:l0.length≤c0) (h:whole_Gcd.f k l0=some (r1,r2,r3)) :
  Calls Tryz.prog 103 #[.slice A0 l0.length c0] w fun e w'=>∃v1_:Value,e=.returned (.tuple #[.agg #[.bool r1,v1_],.int .i64 r3])∧Kd.R (Kd.int .u64) 91 w' w.heap.size (fun _=>True) v1_ r2∧Below w.heap.size w w':=by
 have cx:=Tryz.underlying25
 have cy:=Tryz.underlying86
 have ck:∀(v0_ v1_:Value) (W_:World),(Instr.field 86 (.agg #[v0_,v1_]) 0).run Tryz.prog W_=.ok (v0_) W_:=fun _ _ _=>by kernel_rfl
 have HR0:=Aside0.mk hr0
 have HC0:=Aside0.mk hc0
 clear hr0 hc0
 have HB:=Aside0.mk (Below.refl w.heap.size w)
 have H:(whole_Gcd.l0 k l0 l0 (l0.length:Int) 0)=some (r1,r2,r3):=h
 clear h
 have H':=Aside0.mk H
 clear H
 go_enter Tryz.func103,Tryz.ntmps103
 go_wp2_with (first|(refine gd 2 rfl ?_;refine kbe 2 #[.bool false,.slice none 0 0] 25 ?_;intro ad hg w2 hbox hb;have aa:=Aside0.mk (hbox);have bi:=kbz hg HB;have aj:=kbz hg HB;replace HB:=kbs HB hb;clear hb hbox hg))
 go_loopg [14] k (fun kq v14 w'=>∃(ac:Int) (ag:Bool),v14=.int .i64 ac∧Aside0 (whole_Gcd.l0 kq l0 l0 (l0.length:Int) ac=some (r1,r2,r3))∧Aside0 (kq≤k)∧Aside0 (w'.heap[ad]? = some (.cells #[.bool ag,(.slice none 0 0)] 25 (0,0)))∧Aside0 (Below w.heap.size w w'))
 case atStart=>exact⟨(0),(false),Y0,H',⟨Nat.le_refl _⟩,⟨by(with_reducible repeat (first|refine blk_drewN ?_ _|refine blk_drew ?_|refine blk_alloc ?_ _));exact aa.out⟩,⟨by repeat (first|(with_reducible first|exact HB.out|apply below_alloc|apply pw_below_drewN|apply below_drew1|refine below_set ?_ aj.out)|exact HB.out)⟩⟩
 case round=>
  clear H'
  try clear c1
  try clear p2
  obtain⟨ac,ag,rfl,HA,HK1,aa,HB⟩:=hrel
  cases gk with
  | zero=>exact absurd HA.out (by simp[whole_Gcd.l0])
  | succ k1=>
   have H:=HA.out
   clear HA
   simp only[whole_Gcd.l0]at H
   by_cases c3:ac<(l0.length:Int)
   ·rw [if_pos c3]at H
    have bf:decide (ac<(l0.length:Int))=true:=decide_eq_true c3
    clear c3
    by_cases c4:0≤ac
    ·rw[if_pos c4]at H
     have bC:decide (0≤ac)=true:=decide_eq_true c4
     clear c4
     by_cases c5:ac<(l0.length:Int)
     ·rw[if_pos c5]at H
      have bD:decide (ac<(l0.length:Int))=true:=decide_eq_true c5
      clear c5
      replace H:=Option.bind_eq_some_iff.mp H
      obtain⟨⟨aS,aT⟩,A60,H⟩:=H
      replace H:((whole_number_long.f aS aT).bind fun aU=>(if aU=true then(none) else(whole_Gcd.l0 k1 l0 l0 (l0.length:Int) (wrap64 (ac+1)))))=some (r1,r2,r3):=H
      have A6:=Aside0.mk A60
      clear A60
      replace H:=Option.bind_eq_some_iff.mp H
      obtain⟨aU,A70,H⟩:=H
      replace H:(if aU=true then(none) else(whole_Gcd.l0 k1 l0 l0 (l0.length:Int) (wrap64 (ac+1))))=some (r1,r2,r3):=H
      have A7:=Aside0.mk A70
      clear A70
      by_cases c8:aU=true
      ·subst c8
       have H1:(none)=some (r1,r2,r3):=by rw[if_pos rfl]at H;exact H
       clear H
       have H:=H1
       clear H1
       exact absurd H Z1
      replace c8:=Bool.eq_false_iff.mpr c8
      subst c8
      have H1:(whole_Gcd.l0 k1 l0 l0 (l0.length:Int) (wrap64 (ac+1)))=some (r1,r2,r3):=by rw[if_neg (show ¬(false=true) by decide)]at H;exact H
      clear H
      have H:=H1
      clear H1
      have H':=Aside0.mk H
      clear H
      have aD:0≤(ac:Int):=of_decide_eq_true ‹_›
      have aE:ac<(l0.length:Int):=of_decide_eq_true ‹_›
      obtain⟨cp,ay,az,bT,an,ao,aG,aH⟩:=at_T25 HR0.out ac aD aE
      cases bT
      replace an:=(HB.out.cell (World.block_lt_of_cell? w _ an)).trans an
      replace ao:=(HB.out.cell (World.block_lt_of_cell? w _ ao)).trans ao
      have bn:=Aside0.mk aH
      have bo:=Aside0.mk aG
      clear aH aG
      replace aD:=eq_true aD
      replace aE:=eq_true aE
      go_wp2_with (first|(refine gd 5 rfl ?_;refine kbe 5 #[.bool false,.slice none 0 0] 25 ?_;intro al hg w9 hbox hb;have ah:=Aside0.mk (hbox);have bN:=kbz hg HB;have bj:=kbz hg HB;replace HB:=kbs HB hb;have ar:=knl hg aa;have bd:=kng hg aa;replace aa:=kbb aa hb;clear hb hbox hg;have cq:=bd.out;have cr:=ar.out;have aI:w9.cell? ⟨al,0,none⟩=some (.bool false):=(blk_cell ah.out 0).trans rfl;have aJ:w9.cell? ⟨al,1,none⟩=some (.slice none 0 0):=(blk_cell ah.out 1).trans rfl;have aK:=blk_frozen ah.out 0;have aL:=blk_frozen ah.out 1)|((with_reducible refine gate_store (t:=25) (p:=5) rfl ?_);refine store_event (t:=25) (p:=5) (v:=?vo_w12) (w1:=((w9.setCell ⟨al,0,none⟩ (.bool ((rd_T25 l0 ac).f0))).setCell ⟨al,1,none⟩ (.slice ay ((rd_T25 l0 ac).f1).length az))) ?hg ?ho ?hn ?hr ?_;(case ho=>rfl);(case hg=>rfl);(case hn=>rfl);(case hr=>first|(go_simp;done)|(go_simp;rfl));intro w12 hw;have n0_:Aside0 (w12.heap[ad]? = some (.cells #[.bool ag,.slice none 0 0] 25 (0,0))):=⟨(by rw[hw];exact(kfa ar (kfa ar (kbu aa.out))))⟩;have n1_:Aside0 (w12.heap[al]? = some (.cells #[.bool ((rd_T25 l0 ac).f0),.slice ay ((rd_T25 l0 ac).f1).length az] 25 (0,0))):=⟨(by rw[hw];exact(kpu #[.bool ((rd_T25 l0 ac).f0),.slice none 0 0] 1 (kpu #[.bool false,.slice none 0 0] 0 (kbu ah.out))))⟩;have n2_:Aside0 (Below w.heap.size w w12):=⟨(by rw[hw];exact(by repeat (first|(with_reducible first|exact HB.out|apply below_alloc|apply pw_below_drewN|apply below_drew1|refine below_set ?_ aj.out|refine below_set ?_ bj.out)|exact HB.out)))⟩;clear hw;clear aa;clear ah;clear HB;have aa:=n0_;have ah:=n1_;have HB:=n2_;clear n0_ n1_ n2_;have aM:w12.cell? ⟨al,0,none⟩=some (.bool ((rd_T25 l0 ac).f0)):=(blk_cell ah.out 0).trans rfl;have aN:w12.cell? ⟨al,1,none⟩=some (.slice ay ((rd_T25 l0 ac).f1).length az):=(blk_cell ah.out 1).trans rfl;have aO:=blk_frozen ah.out 0;have aP:=blk_frozen ah.out 1)|((with_reducible refine gate_callee (f:=46) rfl ?_);refine kgl (some 19) rfl rfl Tryz.func46 #[.agg #[.bool ((rd_T25 l0 ac).f0),.slice ay ((rd_T25 l0 ac).f1).length az]] rfl ?_;(with_reducible refine(whole_of.calls k1 ((rd_T25 l0 ac).f0) (fun k_=>k_<w.heap.size) _ _ ((rd_T25 l0 ac).f1) aS aT _ ?side1 A6.out).mono ?_);(case side1=>exact Kd.V_mk bo.out (Kd.F_below (Kd.C_F (Kd.heap_int .u64) bn.out) (khu HB.out)));rintro e w14 ⟨cz,rfl,ho0,hb⟩;refine⟨_,rfl,?_⟩;have aA:=Aside0.mk (Kd.V_lower (Kd.V_mono (ok':=fun k_=>k_≠ad∧k_≠al) ho0 (fun k_ hk_=>⟨koe bi aa hk_,koe bN ah hk_⟩)) (below_size (khu HB.out)));replace aa:=kbb aa hb;replace ah:=kbb ah hb;replace HB:=kbs HB hb;(try clear hb);(try clear hb2);(try clear hk);(try clear hi);(try clear ho0);obtain⟨Ao15,co15,bU⟩:=Kd.V_slice aA.out;subst bU)|((with_reducible refine gate_callee (f:=85) rfl ?_);refine kgl (some 20) rfl rfl Tryz.func85 #[.agg #[.slice Ao15 aS.length co15,.bool aT]] rfl ?_;(with_reducible refine(whole_number_long.calls _ _ aS aT false _ ?side1 ?side2 A7.out).mono ?_);(case side1=>repeat (first|exact(Kd.V_reads' aA.out).2.2|(with_reducible refine Kd.C_alloc ?_ _)|(with_reducible refine Kd.C_drewN ?_ _)|(with_reducible refine Kd.C_drew ?_)));(case side2=>exact(Kd.V_reads' aA.out).2.1);rintro e w16 ⟨rfl,hb⟩;refine⟨_,rfl,?_⟩;replace aA:=kvb aA hb;replace aa:=kbb aa hb;replace ah:=kbb ah hb;replace HB:=kbs HB hb;(try clear hb);(try clear hb2);(try clear hk);(try clear hi)))
      go_roundg k1
      case measure=>have:=HK1.out;omega
      case rel=>exact⟨(wrap64 (ac+1)),(ag),Y0,H',⟨Y3⟩,⟨by(with_reducible repeat (first|refine blk_drewN ?_ _|refine blk_drew ?_|refine blk_alloc ?_ _));exact aa.out⟩,⟨by repeat (first|(with_reducible first|exact HB.out|apply below_alloc|apply pw_below_drewN|apply below_drew1|refine below_set ?_ aj.out|refine below_set ?_ bj.out)|exact HB.out)⟩⟩
     rw[if_neg c5]at H
     exact absurd H Z1
    rw[if_neg c4]at H
    exact absurd H Z1
   rw[if_neg c3]at H
   have bf:decide (ac<(l0.length:Int))=false:=decide_eq_false c3
   clear c3
   have H':=Aside0.mk H
   clear H
   go_wp2
   go_loopg [6,25] k1 (fun kq v6 v25 w'=>∃(au:List Int) (ab:Int),v25=.int .i64 ab∧Aside0 (whole_Gcd.l1 kq au l0 (l0.length:Int) ab=some (r1,r2,r3))∧Aside0 (kq≤k1)∧Aside0 (Kd.V (Kd.int .u64) 91 w' w.heap.size (fun k_=>k_≠ad) v6 au)∧Aside0 (w'.heap[ad]? = some (.cells #[.bool ag,(.slice none 0 0)] 25 (0,0)))∧Aside0 (Below w.heap.size w w'))
   case atStart=>exact⟨(([]:List Int)),(0),Y0,H',⟨Nat.le_refl _⟩,⟨Kd.V_nil _ _ _ _ _⟩,⟨by(with_reducible repeat (first|refine blk_drewN ?_ _|refine blk_drew ?_|refine blk_alloc ?_ _));exact aa.out⟩,⟨by repeat (first|(with_reducible first|exact HB.out|apply below_alloc|apply pw_below_drewN|apply below_drew1|refine below_set ?_ aj.out)|exact HB.out)⟩⟩
   case round=>
    clear H'
    try clear c1
    try clear c2
    try clear p2
    try clear q2
    try clear hx2
    try clear c3
    try clear bf
    try clear c4
    try clear bC
    try clear c5
    try clear bD
    try clear p6
    try clear c8
    try clear c10
    try clear aI
    try clear aJ
    try clear aM
    try clear aN
    try clear aK
    try clear aL
    try clear aO
    try clear aP
    try clear an
    try clear ao
    try clear p2
    try clear aD
    try clear aE
    obtain⟨au,ab,rfl,HA,HK2,HO_6,aa,HB⟩:=hrel
    cases gk with
    | zero=>exact absurd HA.out (by simp[whole_Gcd.l1])
    | succ k2=>
     have H:=HA.out
     clear HA
     simp only[whole_Gcd.l1]at H
     by_cases c17:ab<(l0.length:Int)
     ·rw [if_pos c17]at H
      have bk:decide (ab<(l0.length:Int))=true:=decide_eq_true c17
      clear c17
      by_cases c18:0≤ab
      ·rw [if_pos c18]at H
       have bO:decide (0≤ab)=true:=decide_eq_true c18
       clear c18
       by_cases c19:ab<(l0.length:Int)
       ·rw [if_pos c19]at H
        have bP:decide (ab<(l0.length:Int))=true:=decide_eq_true c19
        clear c19
        replace H:=Option.bind_eq_some_iff.mp H
        obtain⟨⟨bg,bV⟩,bE,H⟩:=H
        replace H:(whole_Gcd.l2 k2 au bg l0 (l0.length:Int) ab)=some (r1,r2,r3):=H
        have A20:=Aside0.mk bE
        clear bE
        have H':=Aside0.mk H
        clear H
        have aV:0≤(ab:Int):=of_decide_eq_true ‹_›
        have aW:ab<(l0.length:Int):=of_decide_eq_true ‹_›
        obtain⟨ct,ap,aq,bW,aw,ax,aQ,aR⟩:=at_T25 HR0.out ab aV aW
        cases bW
        replace aw:=(HB.out.cell (World.block_lt_of_cell? w _ aw)).trans aw
        replace ax:=(HB.out.cell (World.block_lt_of_cell? w _ ax)).trans ax
        have bp:=Aside0.mk aR
        have bq:=Aside0.mk aQ
        clear aR aQ
        replace aV:=eq_true aV
        replace aW:=eq_true aW
        go_wp2_with (first|(refine gd 8 rfl ?_;refine kbe 8 #[.bool false,.slice none 0 0] 25 ?_;intro af hg w21 hbox hb;replace HO_6:=Aside0.mk (Kd.V_below (Kd.V_elderB (kvu HO_6.out) af (Nat.le_of_eq hg.symm)) hb);have ae:=Aside0.mk (hbox);have bQ:=kbz hg HB;have aC:=kbz hg HB;replace HB:=kbs HB hb;have av:=knl hg aa;have be:=kng hg aa;replace aa:=kbb aa hb;clear hb hbox hg;have cu:=be.out;have cv:=av.out;have br:w21.cell? ⟨af,0,none⟩=some (.bool false):=(blk_cell ae.out 0).trans rfl;have bu:w21.cell? ⟨af,1,none⟩=some (.slice none 0 0):=(blk_cell ae.out 1).trans rfl;have bv:=blk_frozen ae.out 0;have bw:=blk_frozen ae.out 1)|((with_reducible refine gate_store (t:=25) (p:=8) rfl ?_);refine store_event (t:=25) (p:=8) (v:=?vo_w24) (w1:=((w21.setCell ⟨af,0,none⟩ (.bool ((rd_T25 l0 ab).f0))).setCell ⟨af,1,none⟩ (.slice ap ((rd_T25 l0 ab).f1).length aq))) ?hg ?ho ?hn ?hr ?_;(case ho=>rfl);(case hg=>rfl);(case hn=>rfl);(case hr=>first|(go_simp;done)|(go_simp;rfl));intro w24 hw;have n0_:Aside0 (Kd.V (Kd.int .u64) 91 w24 w.heap.size (fun k_=>k_≠ad∧k_≠af) u6 au):=⟨(by rw[hw];exact(by(with_reducible repeat (first|apply Kd.V_alloc|apply Kd.V_drewN|apply Kd.V_drew));exact Kd.V_mono (Kd.V_far (p:=⟨af,1,none⟩) (Kd.V_far (p:=⟨af,0,none⟩) (Kd.V_mono HO_6.out (fun k_ hk=>(⟨hk,hk.2⟩:_∧k_≠af))) (fun _ hk=>hk.2) (.bool ((rd_T25 l0 ab).f0))) (fun _ hk=>hk.2) (.slice ap ((rd_T25 l0 ab).f1).length aq)) (fun _ hk=>⟨hk.1.1,hk.1.2⟩)))⟩;have n1_:Aside0 (w24.heap[ad]? = some (.cells #[.bool ag,.slice none 0 0] 25 (0,0))):=⟨(by rw[hw];exact(kfa av (kfa av (kbu aa.out))))⟩;have n2_:Aside0 (w24.heap[af]? = some (.cells #[.bool ((rd_T25 l0 ab).f0),.slice ap ((rd_T25 l0 ab).f1).length aq] 25 (0,0))):=⟨(by rw[hw];exact(kpu #[.bool ((rd_T25 l0 ab).f0),.slice none 0 0] 1 (kpu #[.bool false,.slice none 0 0] 0 (kbu ae.out))))⟩;have n3_:Aside0 (Below w.heap.size w w24):=⟨(by rw[hw];exact(by repeat (first|(with_reducible first|exact HB.out|apply below_alloc|apply pw_below_drewN|apply below_drew1|refine below_set ?_ aj.out|refine below_set ?_ aC.out)|exact HB.out)))⟩;clear hw;clear HO_6;clear aa;clear ae;clear HB;have HO_6:=n0_;have aa:=n1_;have ae:=n2_;have HB:=n3_;clear n0_ n1_ n2_ n3_;have bx:w24.cell? ⟨af,0,none⟩=some (.bool ((rd_T25 l0 ab).f0)):=(blk_cell ae.out 0).trans rfl;have bz:w24.cell? ⟨af,1,none⟩=some (.slice ap ((rd_T25 l0 ab).f1).length aq):=(blk_cell ae.out 1).trans rfl;have bA:=blk_frozen ae.out 0;have bB:=blk_frozen ae.out 1)|((with_reducible refine gate_callee (f:=46) rfl ?_);refine kgl (some 30) rfl rfl Tryz.func46 #[.agg #[.bool ((rd_T25 l0 ab).f0),.slice ap ((rd_T25 l0 ab).f1).length aq]] rfl ?_;(with_reducible refine(whole_of.calls k2 ((rd_T25 l0 ab).f0) (fun k_=>k_<w.heap.size) _ _ ((rd_T25 l0 ab).f1) bg bV _ ?side1 A20.out).mono ?_);(case side1=>exact Kd.V_mk bq.out (Kd.F_below (Kd.C_F (Kd.heap_int .u64) bp.out) (khu HB.out)));rintro e w26 ⟨cA,rfl,ho0,hb⟩;refine⟨_,rfl,?_⟩;replace HO_6:=kvb HO_6 hb;have bR:=Aside0.mk (Kd.V_lower (Kd.V_mono (ok':=fun k_=>k_≠ad∧k_≠af) ho0 (fun k_ hk_=>⟨koe bi aa hk_,koe bQ ae hk_⟩)) (below_size (khu HB.out)));replace aa:=kbb aa hb;replace ae:=kbb ae hb;replace HB:=kbs HB hb;(try clear hb);(try clear hb2);(try clear hk);(try clear hi);(try clear ho0)))
        go_loopg [6,9] k2 (fun kq v6 v9 w'=>∃(am:List Int) (ai:List Int),Aside0 (whole_Gcd.l2 kq am ai l0 (l0.length:Int) ab=some (r1,r2,r3))∧Aside0 (kq≤k2)∧Aside0 (Kd.V (Kd.int .u64) 91 w' w.heap.size (fun k_=>k_≠ad∧k_≠af) v6 am)∧Aside0 (Kd.V (Kd.int .u64) 91 w' w.heap.size (fun k_=>k_≠ad∧k_≠af) v9 ai)∧Aside0 (w'.heap[ad]? = some (.cells #[.bool ag,(.slice none 0 0)] 25 (0,0)))∧Aside0 (w'.heap[af]? = some (.cells #[.bool ((rd_T25 l0 ab).f0),(.slice ap ((rd_T25 l0 ab).f1).length aq)] 25 (0,0)))∧Aside0 (Below w.heap.size w w'))
        case atStart=>exact⟨(au),(bg),H',⟨Nat.le_refl _⟩,⟨kvu HO_6.out⟩,⟨kvu bR.out⟩,⟨by(with_reducible repeat (first|refine blk_drewN ?_ _|refine blk_drew ?_|refine blk_alloc ?_ _));exact aa.out⟩,⟨by(with_reducible repeat (first|refine blk_drewN ?_ _|refine blk_drew ?_|refine blk_alloc ?_ _));exact ae.out⟩,⟨by repeat (first|(with_reducible first|exact HB.out|apply below_alloc|apply pw_below_drewN|apply below_drew1|refine below_set ?_ aj.out|refine below_set ?_ aC.out)|exact HB.out)⟩⟩
        case round=>
         clear H'
         try clear c1
         try clear c2
         try clear p2
         try clear q2
         try clear hx2
         try clear c3
         try clear bf
         try clear c4
         try clear bC
         try clear c5
         try clear bD
         try clear p6
         try clear c8
         try clear c10
         try clear c17
         try clear bk
         try clear c18
         try clear bO
         try clear c19
         try clear bP
         try clear c22
         try clear aI
         try clear aJ
         try clear aM
         try clear aN
         try clear br
         try clear bu
         try clear bx
         try clear bz
         try clear aK
         try clear aL
         try clear aO
         try clear aP
         try clear bv
         try clear bw
         try clear bA
         try clear bB
         try clear an
         try clear ao
         try clear aw
         try clear ax
         try clear p2
         try clear aD
         try clear aV
         try clear p6
         try clear q2
         try clear aE
         try clear aW
         obtain⟨am,ai,HA,HK3,HO_6,ak,aa,ae,HB⟩:=hrel
         cases gk with
         | zero=>exact absurd HA.out (by simp[whole_Gcd.l2])
         | succ k3=>
          have H:=HA.out
          clear HA
          simp only[whole_Gcd.l2]at H
          replace H:=Option.bind_eq_some_iff.mp H
          obtain⟨bF,bG,H⟩:=H
          replace H:(if bF=true then(whole_Gcd.l1 k3 am l0 (l0.length:Int) (wrap64 (ab+1))) else((whole_amount_quo.f k3 am ai).bind fun aX=>(whole_Gcd.l2 k3 ai aX.2 l0 (l0.length:Int) ab)))=some (r1,r2,r3):=H
          have A27:=Aside0.mk bG
          clear bG
          by_cases c28:bF=true
          ·subst c28
           have H1:(whole_Gcd.l1 k3 am l0 (l0.length:Int) (wrap64 (ab+1)))=some (r1,r2,r3):=by rw[if_pos rfl]at H;exact H
           clear H
           have H:=H1
           clear H1
           have H':=Aside0.mk H
           clear H
           obtain⟨Ao29,co29,bX⟩:=Kd.V_slice ak.out
           subst bX
           go_wp2_with (first|((with_reducible refine gate_callee (f:=86) rfl ?_);refine kgl (some 33) rfl rfl Tryz.func86 #[.slice Ao29 ai.length co29] rfl ?_;(with_reducible refine(whole_amount_null.calls _ _ ai true _ ?side1 ?side2 A27.out).mono ?_);(case side1=>repeat (first|exact(Kd.V_reads' ak.out).2.2|(with_reducible refine Kd.C_alloc ?_ _)|(with_reducible refine Kd.C_drewN ?_ _)|(with_reducible refine Kd.C_drew ?_)));(case side2=>exact(Kd.V_reads' ak.out).2.1);rintro e w' ⟨rfl,⟨nd,rfl⟩⟩;refine⟨_,rfl,?_⟩))
           go_roundg k3
           case measure=>have:=HK1.out;have:=HK2.out;have:=HK3.out;omega
           case rel=>exact⟨(am),(wrap64 (ab+1)),Y0,H',⟨by have:=HK1.out;have:=HK2.out;have:=HK3.out;omega⟩,⟨by(with_reducible repeat (first|apply Kd.V_alloc|apply Kd.V_drewN|apply Kd.V_drew));exact Kd.V_mono HO_6.out (fun _ hk=>hk.1)⟩,⟨by(with_reducible repeat (first|refine blk_drewN ?_ _|refine blk_drew ?_|refine blk_alloc ?_ _));exact aa.out⟩,⟨by repeat (first|(with_reducible first|exact HB.out|apply below_alloc|apply pw_below_drewN|apply below_drew1|refine below_set ?_ aj.out|refine below_set ?_ aC.out)|exact HB.out)⟩⟩
          replace c28:=Bool.eq_false_iff.mpr c28
          subst c28
          have H1:((whole_amount_quo.f k3 am ai).bind fun aX=>(whole_Gcd.l2 k3 ai aX.2 l0 (l0.length:Int) ab))=some (r1,r2,r3):=by rw[if_neg (show ¬(false=true) by decide)]at H;exact H
          clear H
          have H:=H1
          clear H1
          replace H:=Option.bind_eq_some_iff.mp H
          obtain⟨⟨bY,bh⟩,bH,H⟩:=H
          replace H:(whole_Gcd.l2 k3 ai bh l0 (l0.length:Int) ab)=some (r1,r2,r3):=H
          have A30:=Aside0.mk bH
          clear bH
          have H':=Aside0.mk H
          clear H
          obtain⟨Ao31,co31,bZ⟩:=Kd.V_slice ak.out
          subst bZ
          go_wp2_with (first|((with_reducible refine gate_callee (f:=86) rfl ?_);refine kgl (some 33) rfl rfl Tryz.func86 #[.slice Ao31 ai.length co31] rfl ?_;(with_reducible refine(whole_amount_null.calls _ _ ai false _ ?side1 ?side2 A27.out).mono ?_);(case side1=>repeat (first|exact(Kd.V_reads' ak.out).2.2|(with_reducible refine Kd.C_alloc ?_ _)|(with_reducible refine Kd.C_drewN ?_ _)|(with_reducible refine Kd.C_drew ?_)));(case side2=>exact(Kd.V_reads' ak.out).2.1);rintro e w' ⟨rfl,⟨nd,rfl⟩⟩;refine⟨_,rfl,?_⟩;obtain⟨ca,cb,cc⟩:=Kd.V_slice HO_6.out;subst cc)|((with_reducible refine gate_callee (f:=172) rfl ?_);refine kgl (some 38) rfl rfl Tryz.func172 #[.slice ca am.length cb,.slice Ao31 ai.length co31] rfl ?_;(with_reducible refine(whole_amount_quo.calls k3 (fun k_=>(k_≠ad∧k_≠af)) _ _ am _ _ ai bY bh _ ?side1 ?side2 ?side3 A30.out).mono ?_);(case side1=>exact HO_6.out);(case side2=>repeat (first|exact(Kd.V_reads' ak.out).2.2|(with_reducible refine Kd.C_alloc ?_ _)|(with_reducible refine Kd.C_drewN ?_ _)|(with_reducible refine Kd.C_drew ?_)));(case side3=>exact(Kd.V_reads' ak.out).2.1);rintro e w33 ⟨cB,cC,rfl,ho0,ho1,hb⟩;refine⟨_,rfl,?_⟩;replace HO_6:=kvb HO_6 hb;replace ak:=kvb ak hb;have cw:=Aside0.mk (Kd.V_lower (Kd.V_mono (ok':=fun k_=>k_≠ad∧k_≠af) ho0 (fun k_ hk_=>⟨Or.elim hk_ (fun hs_=>hs_.1) (kfb aa),Or.elim hk_ (fun hs_=>hs_.2) (kfb ae)⟩)) (below_size (khu HB.out)));have bS:=Aside0.mk (Kd.V_lower (Kd.V_mono (ok':=fun k_=>k_≠ad∧k_≠af) ho1 (fun k_ hk_=>⟨Or.elim hk_ (fun hs_=>hs_.1) (kfb aa),Or.elim hk_ (fun hs_=>hs_.2) (kfb ae)⟩)) (below_size (khu HB.out)));replace aa:=kbb aa hb;replace ae:=kbb ae hb;replace HB:=kbs HB hb;(try clear hb);(try clear hb2);(try clear hk);(try clear hi);(try clear ho0);(try clear ho1)))
          go_roundg k3
          case measure=>have:=HK1.out;have:=HK2.out;have:=HK3.out;omega
          case rel=>exact⟨(ai),(bh),H',⟨by have:=HK1.out;have:=HK2.out;have:=HK3.out;omega⟩,⟨kvu ak.out⟩,⟨kvu bS.out⟩,⟨by(with_reducible repeat (first|refine blk_drewN ?_ _|refine blk_drew ?_|refine blk_alloc ?_ _));exact aa.out⟩,⟨by(with_reducible repeat (first|refine blk_drewN ?_ _|refine blk_drew ?_|refine blk_alloc ?_ _));exact ae.out⟩,⟨by repeat (first|(with_reducible first|exact HB.out|apply below_alloc|apply pw_below_drewN|apply below_drew1|refine below_set ?_ aj.out|refine below_set ?_ aC.out)|exact HB.out)⟩⟩
       rw[if_neg c19]at H
       exact absurd H Z1
      rw[if_neg c18]at H
      exact absurd H Z1
     rw[if_neg c17]at H
     have bk:decide (ab<(l0.length:Int))=false:=decide_eq_false c17
     clear c17
     replace H:=Option.bind_eq_some_iff.mp H
     obtain⟨⟨aY,aZ⟩,bI,H⟩:=H
     replace H:((whole_number_told.f aY aZ).bind fun bb=>(some (bb.1,bb.2.1,bb.2.2)))=some (r1,r2,r3):=H
     have A34:=Aside0.mk bI
     clear bI
     replace H:=Option.bind_eq_some_iff.mp H
     obtain⟨⟨aF,bc,bJ⟩,bK,H⟩:=H
     replace H:(some (aF,bc,bJ))=some (r1,r2,r3):=H
     have A35:=Aside0.mk bK
     clear bK
     simp only[Option.some.injEq,Prod.mk.injEq]at H
     obtain⟨rfl,rfl,rfl⟩:=H
     obtain⟨cd,ce,cf⟩:=Kd.V_slice HO_6.out
     subst cf
     go_wp2_with (first|((with_reducible refine gate_callee (f:=80) rfl ?_);refine kgl (some 45) rfl rfl Tryz.func80 #[.slice cd au.length ce,.bool false] rfl ?_;(with_reducible refine(whole_signed.calls (fun k_=>k_≠ad) _ _ au false aY aZ _ ?side1 A34.out).mono ?_);(case side1=>exact HO_6.out);rintro e w37 ⟨cD,rfl,ho0,hb⟩;refine⟨_,rfl,?_⟩;replace HO_6:=kvb HO_6 hb;have aB:=Aside0.mk (Kd.V_lower (Kd.V_mono (ok':=fun k_=>k_≠ad) ho0 (fun k_ hk_=>Or.elim hk_ (fun hs_=>hs_) (kfb aa))) (below_size (khu HB.out)));replace aa:=kbb aa hb;replace HB:=kbs HB hb;(try clear hb);(try clear hb2);(try clear hk);(try clear hi);(try clear ho0);obtain⟨cg,ch,ci⟩:=Kd.V_slice aB.out;subst ci)|((with_reducible refine gate_callee (f:=81) rfl ?_);refine kgl (some 46) rfl rfl Tryz.func81 #[.agg #[.slice cg aY.length ch,.bool aZ]] rfl ?_;(with_reducible refine(whole_number_told.calls _ _ aY aZ aF bc bJ _ ?side1 ?side2 A35.out).mono ?_);(case side1=>repeat (first|exact(Kd.V_reads' aB.out).2.2|(with_reducible refine Kd.C_alloc ?_ _)|(with_reducible refine Kd.C_drewN ?_ _)|(with_reducible refine Kd.C_drew ?_)));(case side2=>exact(Kd.V_reads' aB.out).2.1);rintro e w39 ⟨cE,rfl,ho0,hb⟩;refine⟨_,rfl,?_⟩;replace HO_6:=Aside0.mk (Kd.V_elder' (kvu HO_6.out) (Kd.R_base ho0) hb);replace aB:=Aside0.mk (Kd.V_elder' (kvu aB.out) (Kd.R_base ho0) hb);have bl:=Aside0.mk (Kd.R_lower ho0 (below_size (khu HB.out)));replace aa:=kbb aa hb;replace HB:=kbs HB hb;(try clear hb);(try clear hb2);(try clear hk);(try clear hi);(try clear ho0);have cl:w39.cell? ⟨ad,0,none⟩=some (.bool ag):=(blk_cell aa.out 0).trans rfl;have cm:w39.cell? ⟨ad,1,none⟩=some (.slice none 0 0):=(blk_cell aa.out 1).trans rfl;have cn:=blk_frozen aa.out 0;have co:=blk_frozen aa.out 1;obtain⟨bL,bM,cj⟩:=Kd.R_slice bl.out;subst cj))
     refine bodyPost_ret (results_ct rfl _ _ ad 25 #[.bool aF,.slice bL bc.length bM] (0,0) _ rfl (kpu #[.bool aF,.slice none 0 0] 1 (kpu #[.bool ag,.slice none 0 0] 0 (kbu aa.out))) Tryz.underlying25 rfl X0) rfl ?_
     exact⟨_,B0,by(with_reducible repeat (first|apply Kd.R_alloc|apply Kd.R_drewN|apply Kd.R_drew));exact Kd.R_mono (Kd.R_far (p:=⟨ad,1,none⟩) (Kd.R_far (p:=⟨ad,0,none⟩) (Kd.R_types bl.out aa.out J0) (fun _ hk=>hk.2) (.bool aF)) (fun _ hk=>hk.2) (.slice bL bc.length bM)) (fun _ hk=>trivial),by repeat (first|(with_reducible first|exact HB.out|apply below_alloc|apply pw_below_drewN|apply below_drew1|refine below_set ?_ aj.out)|exact HB.out)⟩
def whole_number_cut.f (k:Nat) (l0_0:List Int) (a0_1:Bool) (l1_0:List Int) (a1_1:Bool):Option (List Int×Bool×List Int×Bool):=(whole_amount_quo.f k l0_0 l1_0).bind fun bt306=>((whole_signed.f bt306.1 (a0_1 != a1_1)).bind fun bt312=>((whole_signed.f bt306.2 a0_1).bind fun bt316=>(some (bt312.1,bt312.2,bt316.1,bt316.2))))
def whole_number_cut.T2:Bool×List (List Nat×List Nat):=(true,[([],[]),([],[]),([1],[1]),([],[]),([3],[3]),([2,4],[2,4]),([0,5],[0,5]),([],[]),([],[]),([8],[8]),([7,9,6],[7,9]),([6,10,0,1,2,3,4,5,6],[6]),([10,11,0,1,2,3,4,5,6,7,8,9,10,11],[10])])
def whole_number_cut.B2:List Nat:=[0,0,2,0,8,30,63,0,0,256,1023,2047,4095]
theorem whole_number_cut.tab2:rtab .any (opsOf Tryz.f139 2)=whole_number_cut.T2:=by kernel_rfl
theorem whole_number_cut.bits2:waitsOk whole_number_cut.T2.2 whole_number_cut.B2=true:=by kernel_rfl
theorem whole_number_cut.calls (k:Nat) (P0_0_:Nat→Prop) (ae:Option Addr) (af:Nat) (ab:List Int) (ac:Bool) (ag:Option Addr) (ah:Nat) (aa:List Int) (ad:Bool) (r1:List Int) (r2:Bool) (r3:List Int) (r4:Bool) (w:World) (ai:Kd.V (Kd.int .u64) 91 w w.heap.size (fun k_=>P0_0_ k_) (.slice ae ab.length af) ab) (aj:Kd.C (Kd.int .u64) w ag aa.length aa) (ak:aa.length≤ah) (h:whole_number_cut.f k ab ac aa ad=some (r1,r2,r3,r4)) :
  Calls Tryz.prog 139 #[.agg #[.slice ae ab.length af,.bool ac],.agg #[.slice ag aa.length ah,.bool ad]] w fun e w'=>∃v0_ v2_:Value,e=.returned (.tuple #[.agg #[v0_,.bool r2],.agg #[v2_,.bool r4]])∧Kd.V (Kd.int .u64) 91 w' w.heap.size (fun k_=>(P0_0_ k_∨w.heap.size≤k_)) v0_ r1∧Kd.V (Kd.int .u64) 91 w' w.heap.size (fun k_=>(P0_0_ k_∨w.heap.size≤k_)) v2_ r3∧Below w.heap.size w w':=by
 have ap:=Tryz.underlying86
 have K:=Kp.refl w
 replace K:=K.parV (Kd.V_mono (ok':=fun k=>P0_0_ k) ai (fun _ h=>h))
 clear ai
 replace K:=K.parV (Kd.V_mono (ok':=fun k=>k<w.heap.size) (Kd.V_mk (e:=91) (base:=0) ak (Kd.C_F (Kd.heap_int .u64) aj)) (fun _ h=>h))
 clear aj ak
 try simp only[klv]at K
 rw[whole_number_cut.f]at h
 replace h:=bindA h
 obtain⟨⟨x9,x10⟩,A11,h⟩:=h
 dsimp only at h
 go_enter Tryz.func139,Tryz.ntmps139
 go_wp2_with (first|(refine gd 2 rfl ?_;refine kbk 2 #[.slice ae ab.length af,.bool ac] 86 K.u ?_;clear K;intro g1 W2 K)|(refine gd 3 rfl ?_;refine kbk 3 #[.slice ag aa.length ah,.bool ad] 86 K.u ?_;clear K;intro g3 W4 K)|(refine gd 4 rfl ?_;refine kbk 4 #[.slice none 0 0,.bool false] 86 K.u ?_;clear K;intro g5 W6 K)|(refine gd 5 rfl ?_;refine kbk 5 #[.slice none 0 0,.bool false] 86 K.u ?_;clear K;intro g7 W8 K;obtain⟨ua0,ub0⟩:=K.cell2 0 rfl;obtain⟨ua1,ub1⟩:=K.cell2 1 rfl)|(refine gd 13 rfl ?_;clear ua0 ub0 ua1 ub1;refine kgl (some 13) rfl rfl Tryz.func172 #[.slice ae ab.length af,.slice ag aa.length ah] rfl ?_;refine(whole_amount_quo.calls _ _ _ _ ab _ _ aa x9 x10 _ (K.V 0 rfl) (K.C 1 rfl) (K.le 1 rfl) A11.out).mono ?_;rintro e W16 ⟨v12,v13,rfl,al,am,hb⟩;refine⟨_,rfl,?_⟩;have K1:=K.u.add (fun k=>P0_0_ k) hb al (fun _ h=>h);replace K:=K.u.more (fun k=>P0_0_ k) K1 am (fun _ h=>h);clear K1;clear hb al am;obtain⟨P17,c18,e19⟩:=K.slice 2 rfl;subst e19;obtain⟨P20,c21,e22⟩:=K.slice 3 rfl;subst e22))
 replace h:=bindA h
 obtain⟨⟨x23,z24⟩,A25,h⟩:=h
 dsimp only at h
 replace h:=bindA h
 obtain⟨⟨x26,z27⟩,A28,h⟩:=h
 dsimp only at h
 obtain⟨Bs,Vs,Os,hBs,hVs,hOs,K⟩:=K.abs
 have HS:Aside0 (∀l m o W,Kp w (Bs++l) m o W→W.cell? ⟨g1,0,none⟩=some (.slice ae ab.length af)∧W.cell? ⟨g1,1,none⟩=some (.bool ac)∧W.cell? ⟨g3,0,none⟩=some (.slice ag aa.length ah)∧W.cell? ⟨g3,1,none⟩=some (.bool ad)):=⟨fun l m o W K=>by rw[hBs.out]at K;exact⟨K.cell 0 rfl 0 rfl,K.cell 0 rfl 1 rfl,K.cell 1 rfl 0 rfl,K.cell 1 rfl 1 rfl⟩⟩
 refine kpstart (n:=13) (ds:=[]) (S:=fun W=>W.cell? ⟨g1,0,none⟩=some (.slice ae ab.length af)∧W.cell? ⟨g1,1,none⟩=some (.bool ac)∧W.cell? ⟨g3,0,none⟩=some (.slice ag aa.length ah)∧W.cell? ⟨g3,1,none⟩=some (.bool ad)) (bm_ 13 0) X0 rfl rfl K (HS.out [] _ _) (fun W31 K hH=>?_)
 refine with_tabW whole_number_cut.tab2 whole_number_cut.bits2 (fun HT_ HW_=>?_)
 refine pu_ 0 16 ?_ (bm_ 13 1) rfl rfl (any_of HT_.out X0) (fun _ _ _ h=>h) F1 ?_ ?_ ?_ ?_
 rotate_left
 ·intro w'
  go_simp
  with_reducible rfl
 rotate_left
 ·simp only[Act.put,kss,i64_w,i32_w]
  rfl
 refine pu_ 1 17 ?_ (bm_ 13 3) rfl rfl (any_of HT_.out X0) (fun _ _ _ h=>h) F1 ?_ ?_ ?_ ?_
 rotate_left
 ·intro w'
  go_simp
  with_reducible rfl
 rotate_left
 ·simp only[Act.put,kss,i64_w,i32_w]
  rfl
 refine tk_ 2 18 ?_ (bm_ 13 7) rfl rfl (take_ofW HT_.out HW_.out X0) (fun _ _ _ h=>h) F1 ?_ hH ?_ ?_ ?_
 rotate_left
 ·rintro w' ⟨s0,s1,s2,s3⟩
  go_simp
  with_reducible rfl
 rotate_left
 ·simp only[Act.put,kss,i64_w,i32_w]
  rfl
 refine pu_ 3 19 ?_ (bm_ 13 15) rfl rfl (any_of HT_.out X0) (fun _ _ _ h=>h) F1 ?_ ?_ ?_ ?_
 rotate_left
 ·intro w'
  go_simp
  with_reducible rfl
 rotate_left
 ·simp only[Act.put,kss,i64_w,i32_w]
  rfl
 refine tk_ 4 20 ?_ (bm_ 13 31) rfl rfl (take_ofW HT_.out HW_.out X0) (fun _ _ _ h=>h) F1 ?_ hH ?_ ?_ ?_
 rotate_left
 ·rintro w' ⟨s0,s1,s2,s3⟩
  go_simp
  with_reducible rfl
 rotate_left
 ·simp only[Act.put,kss,i64_w,i32_w]
  rfl
 refine pu_ 5 21 ?_ (bm_ 13 63) rfl rfl (any_of HT_.out X0) (fun _ _ _ h=>h) F1 ?_ ?_ ?_ ?_
 rotate_left
 ·intro w'
  go_simp
  with_reducible rfl
 rotate_left
 ·simp only[Act.put,kss,i64_w,i32_w]
  rfl
 refine pu_ 7 23 ?_ (bm_ 13 191) rfl rfl (any_of HT_.out X0) (fun _ _ _ h=>h) F1 ?_ ?_ ?_ ?_
 rotate_left
 ·intro w'
  go_simp
  with_reducible rfl
 rotate_left
 ·simp only[Act.put,kss,i64_w,i32_w]
  rfl
 refine pu_ 8 24 ?_ (bm_ 13 447) rfl rfl (any_of HT_.out X0) (fun _ _ _ h=>h) F1 ?_ ?_ ?_ ?_
 rotate_left
 ·intro w'
  go_simp
  with_reducible rfl
 rotate_left
 ·simp only[Act.put,kss,i64_w,i32_w]
  rfl
 refine tk_ 9 25 ?_ (bm_ 13 959) rfl rfl (take_ofW HT_.out HW_.out X0) (fun _ _ _ h=>h) F1 ?_ hH ?_ ?_ ?_
 rotate_left
 ·rintro w' ⟨s0,s1,s2,s3⟩
  go_simp
  with_reducible rfl
 rotate_left
 ·simp only[Act.put,kss,i64_w,i32_w]
  rfl
 refine one_ (i:=6) (N:=some 22) (bm_ 13 1023) rfl rfl (one_of HT_.out X0) J0 (fun Kc hK=>?_)
 refine kgo Tryz.func80 #[.slice P17 x9.length c18,.bool (ac != ad)] F1 rfl rfl ?_
 refine(whole_signed.calls _ _ _ x9 (ac != ad) x23 z24 _ (K.V 2 (hv hVs rfl)) A25.out).mono ?_
 rintro e W' ⟨v29,rfl,an,hb⟩
 replace K:=K.addI 0 (fun k=>P0_0_ k) hb an (fun _ h=>h)
 clear hb an
 refine⟨_,rfl,hK.out _ _ (HS.out _ _ _ _ K) fun hH=>?_⟩
 clear hK Kc
 refine norm_ (a':=?_) ?_ ?_
 rotate_left
 ·show Act.put _ (some 22) _=_
  simp only[Act.put,kss,i64_w,i32_w]
  rfl
 refine one_ (i:=10) (N:=some 26) (bm_ 13 2047) rfl rfl (one_of HT_.out X0) J0 (fun Kc hK=>?_)
 refine kgo Tryz.func80 #[.slice P20 x10.length c21,.bool ac] F1 rfl rfl ?_
 refine(whole_signed.calls _ _ _ x10 ac x26 z27 _ (K.V 3 (hv hVs rfl)) A28.out).mono ?_
 rintro e W' ⟨v30,rfl,ao,hb⟩
 replace K:=K.addI 1 (fun k=>P0_0_ k) hb ao (fun _ h=>h)
 clear hb ao
 refine⟨_,rfl,hK.out _ _ (HS.out _ _ _ _ K) fun hH=>?_⟩
 clear hK Kc
 refine norm_ (a':=?_) ?_ ?_
 rotate_left
 ·show Act.put _ (some 26) _=_
  simp only[Act.put,kss,i64_w,i32_w]
  rfl
 obtain⟨P34,c35,e36⟩:=K.slice 4 (hv hVs rfl)
 subst e36
 obtain⟨P37,c38,e39⟩:=K.slice 5 (hv hVs rfl)
 subst e39
 rw[hBs.out,hVs.out,hOs.out]at K
 simp only[kls,klv]at K
 clear hBs hVs hOs HS hH
 refine ko2 (i:=11) (bm_ 13 4095) 2 (.slice P34 x23.length c35) (.bool z24) K rfl rfl rfl (one_of HT_.out X0) J0 F1 (fun W K=>⟨K.cell 0 rfl 0 rfl,K.cell 0 rfl 1 rfl,K.cell 1 rfl 0 rfl,K.cell 1 rfl 1 rfl⟩) ?_
 clear K
 intro W40 K
 simp only[kls,klv]at K
 refine ko2 (i:=12) (bm_ 13 8191) 3 (.slice P37 x26.length c38) (.bool z27) K rfl rfl rfl (one_of HT_.out X0) J0 F1 (fun W K=>⟨K.cell 0 rfl 0 rfl,K.cell 0 rfl 1 rfl,K.cell 1 rfl 0 rfl,K.cell 1 rfl 1 rfl⟩) ?_
 clear K
 intro W41 K
 simp only[kls,klv]at K
 refine done_ (done_of HT_.out X0) ?_
 clear HT_ HW_
 simp only[Option.some.injEq,Prod.mk.injEq]at h
 obtain⟨rfl,rfl,rfl,rfl⟩:=h
 go_wp2
 refine bodyPost_ret (results_list (rs:=[.cell 4 86,.cell 5 86]) rfl Z1 (.cell g5 86 #[.slice P34 x23.length c35,.bool z24] (0,0) _ rfl (K.u.heap 2 rfl) Tryz.underlying86 rfl X0 (.cell g7 86 #[.slice P37 x26.length c38,.bool z27] (0,0) _ rfl (K.u.heap 3 rfl) Tryz.underlying86 rfl X0 .nil))) rfl ?_
 exact⟨_,_,rfl,K.u.hand 4 rfl (fun k_ h=>h.elim (fun h=>.inl h) .inr),K.u.hand 5 rfl (fun k_ h=>h.elim (fun h=>.inl h) .inr),K.u.below⟩
def whole_pair.j0:Nat→Bool→List Int→Bool→List Int→Bool→Option (Bool×List Int×Bool×List Int×Int)
 | 0,_,_,_,_,_=>none
 | k+1,x12,x321000,x321001,x322000,x322001=>if x12=true then(none) else((whole_number_out.f x321000 x321001).bind fun bt326=>((whole_number_out.f x322000 x322001).bind fun bt330=>(some (bt326.1,bt326.2,bt330.1,bt330.2,0))))
def whole_pair.f (k:Nat) (l0_0:List Int) (a0_1:Bool) (l1_0:List Int) (a1_1:Bool):Option (Bool×List Int×Bool×List Int×Int):=(whole_number_long.f l0_0 a0_1).bind fun t324=>(if t324=true then(whole_pair.j0 k true l0_0 a0_1 l1_0 a1_1) else((whole_number_long.f l1_0 a1_1).bind fun t325=>(whole_pair.j0 k t325 l0_0 a0_1 l1_0 a1_1)))
theorem whole_pair.calls (k:Nat) (ae:Option Addr) (af:Nat) (aa:List Int) (ac:Bool) (ag:Option Addr) (ah:Nat) (ab:List Int) (ad:Bool) (r1:Bool) (r2:List Int) (r3:Bool) (r4:List Int) (r5:Int) (w:World) (ai:Kd.C (Kd.int .u64) w ae aa.length aa) (aj:aa.length≤af) (ak:Kd.C (Kd.int .u64) w ag ab.length ab) (al:ab.length≤ah) (h:whole_pair.f k aa ac ab ad=some (r1,r2,r3,r4,r5)) :
  Calls Tryz.prog 143 #[.agg #[.slice ae aa.length af,.bool ac],.agg #[.slice ag ab.length ah,.bool ad]] w fun e w'=>∃v1_ v3_:Value,e=.returned (.tuple #[.agg #[.bool r1,v1_],.agg #[.bool r3,v3_],.int .i64 r5])∧Kd.R (Kd.int .u64) 91 w' w.heap.size (fun k_=>some k_≠(v3_:Value).ownBlock) v1_ r2∧Kd.R (Kd.int .u64) 91 w' w.heap.size (fun k_=>some k_≠(v1_:Value).ownBlock) v3_ r4∧Below w.heap.size w w':=by
 have ao:=Tryz.underlying25
 have ap:=Tryz.underlying86
 have K:=Kp.refl w
 replace K:=K.parV (Kd.V_mono (ok':=fun _=>True) (Kd.V_mk (e:=91) (base:=0) aj (Kd.C_F (Kd.heap_int .u64) ai)) (fun _ h=>trivial))
 clear ai aj
 replace K:=K.parV (Kd.V_mono (ok':=fun _=>True) (Kd.V_mk (e:=91) (base:=0) al (Kd.C_F (Kd.heap_int .u64) ak)) (fun _ h=>trivial))
 clear ak al
 try simp only[klv]at K
 rw[whole_pair.f]at h
 replace h:=bindA h
 obtain⟨z9,A10,h⟩:=h
 by_cases c_0:z9=true
 ·subst c_0
  rw[if_pos rfl]at h
  obtain⟨k,rfl⟩:∃j,k=j+1:=by
   cases k with
   | zero=>simp[whole_pair.j0]at h
   | succ k=>exact⟨k,rfl⟩
  rw[whole_pair.j0]at h
  rw[if_pos rfl]at h
  exact nomatch h
 replace c_0:=Bool.eq_false_iff.mpr c_0
 subst c_0
 rw[if_neg J0]at h
 replace h:=bindA h
 obtain⟨z12,A13,h⟩:=h
 obtain⟨k,rfl⟩:∃j,k=j+1:=by
  cases k with
  | zero=>simp[whole_pair.j0]at h
  | succ k=>exact⟨k,rfl⟩
 rw[whole_pair.j0]at h
 by_cases c_1:z12=true
 ·subst c_1
  rw[if_pos rfl]at h
  exact nomatch h
 replace c_1:=Bool.eq_false_iff.mpr c_1
 subst c_1
 rw[if_neg J0]at h
 go_enter Tryz.func143,Tryz.ntmps143
 go_wp2_with (first|(refine gd 2 rfl ?_;refine kbk 2 #[.slice ae aa.length af,.bool ac] 86 K.u ?_;clear K;intro g1 W2 K)|(refine gd 3 rfl ?_;refine kbk 3 #[.slice ag ab.length ah,.bool ad] 86 K.u ?_;clear K;intro g3 W4 K)|(refine gd 4 rfl ?_;refine kbk 4 #[.bool false,.slice none 0 0] 25 K.u ?_;clear K;intro g5 W6 K)|(refine gd 5 rfl ?_;refine kbk 5 #[.bool false,.slice none 0 0] 25 K.u ?_;clear K;intro g7 W8 K;obtain⟨ua0,ub0⟩:=K.cell2 0 rfl)|(refine gd 8 rfl ?_;clear ua0 ub0;refine kgl (some 8) rfl rfl Tryz.func85 #[.agg #[.slice ae aa.length af,.bool ac]] rfl ?_;refine(whole_number_long.calls _ _ aa ac false _ (K.C 0 rfl) (K.le 0 rfl) A10.out).mono ?_;rintro e W11 ⟨rfl,hb⟩;refine⟨_,rfl,?_⟩;replace K:=K.u.up hb;clear hb;obtain⟨ua1,ub1⟩:=K.cell2 1 rfl)|(refine gd 11 rfl ?_;clear ua1 ub1;refine gate_guard F1 ?_;refine kgl (some 11) rfl rfl Tryz.func85 #[.agg #[.slice ag ab.length ah,.bool ad]] rfl ?_;refine(whole_number_long.calls _ _ ab ad false _ (K.C 1 rfl) (K.le 1 rfl) A13.out).mono ?_;rintro e W14 ⟨rfl,hb⟩;refine⟨_,rfl,?_⟩;replace K:=K.u.up hb;clear hb))
 replace h:=bindA h
 obtain⟨⟨z15,x16⟩,A17,h⟩:=h
 dsimp only at h
 replace h:=bindA h
 obtain⟨⟨z18,x19⟩,A20,h⟩:=h
 dsimp only at h
 obtain⟨Bs,Vs,Os,hBs,hVs,hOs,K⟩:=K.abs
 have HS:Aside0 (∀l m o W,Kp w (Bs++l) m o W→W.cell? ⟨g1,0,none⟩=some (.slice ae aa.length af)∧W.cell? ⟨g1,1,none⟩=some (.bool ac)∧W.cell? ⟨g3,0,none⟩=some (.slice ag ab.length ah)∧W.cell? ⟨g3,1,none⟩=some (.bool ad)):=⟨fun l m o W K=>by rw[hBs.out]at K;exact⟨K.cell 0 rfl 0 rfl,K.cell 0 rfl 1 rfl,K.cell 1 rfl 0 rfl,K.cell 1 rfl 1 rfl⟩⟩
 refine kpstart (n:=7) (ds:=[]) (S:=fun W=>W.cell? ⟨g1,0,none⟩=some (.slice ae aa.length af)∧W.cell? ⟨g1,1,none⟩=some (.bool ac)∧W.cell? ⟨g3,0,none⟩=some (.slice ag ab.length ah)∧W.cell? ⟨g3,1,none⟩=some (.bool ad)) (bm_ 7 0) X0 rfl rfl K (HS.out [] _ _) (fun W23 K hH=>?_)
 refine tk_ 0 15 ?_ (bm_ 7 1) rfl rfl X0 (fun _ _ _ h=>h) F1 ?_ hH ?_ ?_ ?_
 rotate_left
 ·rintro w' ⟨s0,s1,s2,s3⟩
  go_simp
  with_reducible rfl
 rotate_left
 ·simp only[Act.put,kss,i64_w,i32_w]
  rfl
 refine tk_ 2 17 ?_ (bm_ 7 5) rfl rfl X0 (fun _ _ _ h=>h) F1 ?_ hH ?_ ?_ ?_
 rotate_left
 ·rintro w' ⟨s0,s1,s2,s3⟩
  go_simp
  with_reducible rfl
 rotate_left
 ·simp only[Act.put,kss,i64_w,i32_w]
  rfl
 refine one_ (i:=1) (N:=some 16) (bm_ 7 7) rfl rfl X0 J0 (fun Kc hK=>?_)
 refine kgo Tryz.func91 #[.agg #[.slice ae aa.length af,.bool ac]] F1 rfl rfl ?_
 refine(whole_number_out.calls _ _ aa ac z15 x16 _ (K.C 0 (hv hVs rfl)) (K.le 0 (hv hVs rfl)) A17.out).mono ?_
 rintro e W' ⟨v21,rfl,am,hb⟩
 replace K:=K.addRI 0 0 hb am (lb rfl)
 clear hb am
 refine⟨_,rfl,hK.out _ _ (HS.out _ _ _ _ K) fun hH=>?_⟩
 clear hK Kc
 refine norm_ (a':=?_) ?_ ?_
 rotate_left
 ·show Act.put _ (some 16) _=_
  simp only[Act.put,kss,i64_w,i32_w]
  rfl
 refine one_ (i:=3) (N:=some 18) (bm_ 7 15) rfl rfl X0 J0 (fun Kc hK=>?_)
 refine kgo Tryz.func91 #[.agg #[.slice ag ab.length ah,.bool ad]] F1 rfl rfl ?_
 refine(whole_number_out.calls _ _ ab ad z18 x19 _ (K.C 1 (hv hVs rfl)) (K.le 1 (hv hVs rfl)) A20.out).mono ?_
 rintro e W' ⟨v22,rfl,an,hb⟩
 replace K:=K.addRI 1 1 hb an (lb rfl)
 clear hb an
 refine⟨_,rfl,hK.out _ _ (HS.out _ _ _ _ K) fun hH=>?_⟩
 clear hK Kc
 refine norm_ (a':=?_) ?_ ?_
 rotate_left
 ·show Act.put _ (some 18) _=_
  simp only[Act.put,kss,i64_w,i32_w]
  rfl
 obtain⟨P26,c27,e28⟩:=K.slice 2 (hv hVs rfl)
 subst e28
 obtain⟨P29,c30,e31⟩:=K.slice 3 (hv hVs rfl)
 subst e31
 rw[hBs.out,hVs.out,hOs.out]at K
 simp only[kls,klv]at K
 clear hBs hVs hOs HS hH
 refine ko2 (i:=4) (bm_ 7 31) 2 (.bool z15) (.slice P26 x16.length c27) K rfl rfl rfl X0 J0 F1 (fun W K=>⟨K.cell 0 rfl 0 rfl,K.cell 0 rfl 1 rfl,K.cell 1 rfl 0 rfl,K.cell 1 rfl 1 rfl⟩) ?_
 clear K
 intro W32 K
 simp only[kls,klv]at K
 refine ko2 (i:=5) (bm_ 7 63) 3 (.bool z18) (.slice P29 x19.length c30) K rfl rfl rfl X0 J0 F1 (fun W K=>⟨K.cell 0 rfl 0 rfl,K.cell 0 rfl 1 rfl,K.cell 1 rfl 0 rfl,K.cell 1 rfl 1 rfl⟩) ?_
 clear K
 intro W33 K
 simp only[kls,klv]at K
 refine pu_ 6 6 ?_ (bm_ 7 127) rfl rfl X0 (fun _ _ _ h=>h) F1 ?_ ?_ ?_ ?_
 rotate_left
 ·intro w'
  go_simp
  with_reducible rfl
 rotate_left
 ·simp only[Act.put,kss,i64_w,i32_w]
  rfl
 refine done_ X0 ?_
 simp only[Option.some.injEq,Prod.mk.injEq]at h
 obtain⟨rfl,rfl,rfl,rfl,rfl⟩:=h
 go_wp2
 refine bodyPost_ret (results_list (rs:=[.cell 4 25,.cell 5 25,.tmp 6]) rfl Z1 (.cell g5 25 #[.bool z15,.slice P26 x16.length c27] (0,0) _ rfl (K.u.heap 2 rfl) Tryz.underlying25 rfl X0 (.cell g7 25 #[.bool z18,.slice P29 x19.length c30] (0,0) _ rfl (K.u.heap 3 rfl) Tryz.underlying25 rfl X0 (.tmp .nil)))) rfl ?_
 exact⟨_,_,rfl,K.u.Rne 0 rfl rfl fun k_ h_=>K.apart 0 1 rfl rfl J0 k_ h_,K.u.Rne 1 rfl rfl fun k_ h_=>K.apart 1 0 rfl rfl J0 k_ h_,K.u.below⟩
def whole_Quo.f (k:Nat) (a0_0:Bool) (l0_1:List Int) (a1_0:Bool) (l1_1:List Int):Option (Bool×List Int×Bool×List Int×Int):=(whole_of.f k a1_0 l1_1).bind fun bt338=>((whole_amount_null.f bt338.1).bind fun t343=>(if t343=true then(none) else((whole_of.f k a0_0 l0_1).bind fun bt344=>((whole_number_cut.f k bt344.1 bt344.2 bt338.1 bt338.2).bind fun bt348=>((whole_pair.f k bt348.1 bt348.2.1 bt348.2.2.1 bt348.2.2.2).bind fun bt356=>(some (bt356.1,bt356.2.1,bt356.2.2.1,bt356.2.2.2.1,bt356.2.2.2.2)))))))
def whole_Quo.T4:Bool×List (List Nat×List Nat):=(true,[([],[]),([0],[0]),([],[]),([1,2,1],[1,2]),([3],[3]),([3],[3]),([4,5,3],[4,5]),([6],[6]),([6],[6]),([6],[6]),([7,6,0,1,2,3,4,5,6,7,8,9],[7]),([8,10,0,1,2,3,4,5,6,7,8,9,10],[8]),([9,11,0,1,2,3,4,5,6,7,8,9,10,11],[9])])
def whole_Quo.B4:List Nat:=[0,1,0,7,15,15,63,127,127,127,1023,2047,4095]
theorem whole_Quo.tab4:rtab .any (opsOf Tryz.f104 4)=whole_Quo.T4:=by kernel_rfl
theorem whole_Quo.bits4:waitsOk whole_Quo.T4.2 whole_Quo.B4=true:=by kernel_rfl
theorem whole_Quo.calls (k:Nat) (ac:Bool) (ad:Option Addr) (ae:Nat) (aa:List Int) (af:Bool) (ag:Option Addr) (ah:Nat) (ab:List Int) (r1:Bool) (r2:List Int) (r3:Bool) (r4:List Int) (r5:Int) (w:World) (ai:Kd.C (Kd.int .u64) w ad aa.length aa) (aj:aa.length≤ae) (ak:Kd.C (Kd.int .u64) w ag ab.length ab) (al:ab.length≤ah) (h:whole_Quo.f k ac aa af ab=some (r1,r2,r3,r4,r5)) :
  Calls Tryz.prog 104 #[.agg #[.bool ac,.slice ad aa.length ae],.agg #[.bool af,.slice ag ab.length ah]] w fun e w'=>∃v1_ v3_:Value,e=.returned (.tuple #[.agg #[.bool r1,v1_],.agg #[.bool r3,v3_],.int .i64 r5])∧Kd.R (Kd.int .u64) 91 w' w.heap.size (fun k_=>some k_≠(v3_:Value).ownBlock) v1_ r2∧Kd.R (Kd.int .u64) 91 w' w.heap.size (fun k_=>some k_≠(v1_:Value).ownBlock) v3_ r4∧Below w.heap.size w w':=by
 have au:=Tryz.underlying25
 have av:=Tryz.underlying86
 have K:=Kp.refl w
 replace K:=K.parV (Kd.V_mono (ok':=fun _=>True) (Kd.V_mk (e:=91) (base:=0) aj (Kd.C_F (Kd.heap_int .u64) ai)) (fun _ h=>trivial))
 clear ai aj
 replace K:=K.parV (Kd.V_mono (ok':=fun _=>True) (Kd.V_mk (e:=91) (base:=0) al (Kd.C_F (Kd.heap_int .u64) ak)) (fun _ h=>trivial))
 clear ak al
 try simp only[klv]at K
 rw[whole_Quo.f]at h
 replace h:=bindA h
 obtain⟨⟨x9,z10⟩,A11,h⟩:=h
 dsimp only at h
 replace h:=bindA h
 obtain⟨z22,A23,h⟩:=h
 by_cases c_0:z22=true
 ·subst c_0
  rw[if_pos rfl]at h
  exact nomatch h
 replace c_0:=Bool.eq_false_iff.mpr c_0
 subst c_0
 rw[if_neg J0]at h
 go_enter Tryz.func104,Tryz.ntmps104
 go_wp2_with (first|(refine gd 2 rfl ?_;refine kbk 2 #[.bool ac,.slice ad aa.length ae] 25 K.u ?_;clear K;intro g1 W2 K)|(refine gd 3 rfl ?_;refine kbk 3 #[.bool af,.slice ag ab.length ah] 25 K.u ?_;clear K;intro g3 W4 K)|(refine gd 4 rfl ?_;refine kbk 4 #[.bool false,.slice none 0 0] 25 K.u ?_;clear K;intro g5 W6 K)|(refine gd 5 rfl ?_;refine kbk 5 #[.bool false,.slice none 0 0] 25 K.u ?_;clear K;intro g7 W8 K;obtain⟨ua1,ub1⟩:=K.cell2 1 rfl)|(refine gd 9 rfl ?_;clear ua1 ub1;refine kgl (some 9) rfl rfl Tryz.func46 #[.agg #[.bool af,.slice ag ab.length ah]] rfl ?_;refine(whole_of.calls _ af _ _ _ ab x9 z10 _ (K.V 1 rfl) A11.out).mono ?_;rintro e W14 ⟨v12,rfl,am,hb⟩;refine⟨_,rfl,?_⟩;replace K:=K.u.add (fun _=>True) hb am (fun _ h=>h.t);clear hb am;obtain⟨P15,c16,e17⟩:=K.slice 2 rfl;subst e17)|(refine gd 7 rfl ?_;refine kbk 7 #[.slice none 0 0,.bool false] 86 K.u ?_;clear K;intro g18 W19 K)|(refine gs 86 7 9 rfl ?_;refine ks2 4 (.slice P15 x9.length c16) (.bool z10) K.u rfl ?_;clear K;intro W20 K;simp only[kls,klv]at K;obtain⟨ua4,ub4⟩:=K.cell2 4 rfl)|(refine gd 12 rfl ?_;clear ua4 ub4;refine kgl (some 12) rfl rfl Tryz.func86 #[.slice P15 x9.length c16] rfl ?_;refine(whole_amount_null.calls _ _ x9 false _ (K.C 2 rfl) (K.le 2 rfl) A23.out).mono ?_;rintro e W24 ⟨rfl,hb⟩;refine⟨_,rfl,?_⟩;replace K:=K.u.up hb.below;clear hb))
 replace h:=bindA h
 obtain⟨⟨x25,z26⟩,A27,h⟩:=h
 dsimp only at h
 replace h:=bindA h
 obtain⟨⟨x28,z29,x30,z31⟩,A32,h⟩:=h
 dsimp only at h
 replace h:=bindA h
 obtain⟨⟨z33,x34,z35,x36,n37⟩,A38,h⟩:=h
 dsimp only at h
 obtain⟨Bs,Vs,Os,hBs,hVs,hOs,K⟩:=K.abs
 have HS:Aside0 (∀l m o W,Kp w (Bs++l) m o W→W.cell? ⟨g1,0,none⟩=some (.bool ac)∧W.cell? ⟨g1,1,none⟩=some (.slice ad aa.length ae)∧W.cell? ⟨g18,0,none⟩=some (.slice P15 x9.length c16)∧W.cell? ⟨g18,1,none⟩=some (.bool z10)):=⟨fun l m o W K=>by rw[hBs.out]at K;exact⟨K.cell 0 rfl 0 rfl,K.cell 0 rfl 1 rfl,K.cell 4 rfl 0 rfl,K.cell 4 rfl 1 rfl⟩⟩
 refine kpstart (n:=13) (ds:=[]) (S:=fun W=>W.cell? ⟨g1,0,none⟩=some (.bool ac)∧W.cell? ⟨g1,1,none⟩=some (.slice ad aa.length ae)∧W.cell? ⟨g18,0,none⟩=some (.slice P15 x9.length c16)∧W.cell? ⟨g18,1,none⟩=some (.bool z10)) (bm_ 13 0) X0 rfl rfl K (HS.out [] _ _) (fun W44 K hH=>?_)
 refine with_tabW whole_Quo.tab4 whole_Quo.bits4 (fun HT_ HW_=>?_)
 refine tk_ 0 15 ?_ (bm_ 13 1) rfl rfl (take_ofW HT_.out HW_.out X0) (fun _ _ _ h=>h) F1 ?_ hH ?_ ?_ ?_
 rotate_left
 ·rintro w' ⟨s0,s1,s2,s3⟩
  go_simp
  with_reducible rfl
 rotate_left
 ·simp only[Act.put,kss,i64_w,i32_w]
  rfl
 refine tk_ 2 17 ?_ (bm_ 13 5) rfl rfl (take_ofW HT_.out HW_.out X0) (fun _ _ _ h=>h) F1 ?_ hH ?_ ?_ ?_
 rotate_left
 ·rintro w' ⟨s0,s1,s2,s3⟩
  go_simp
  with_reducible rfl
 rotate_left
 ·simp only[Act.put,kss,i64_w,i32_w]
  rfl
 refine one_ (i:=1) (N:=some 16) (bm_ 13 7) rfl rfl (one_of HT_.out X0) J0 (fun Kc hK=>?_)
 refine kgo Tryz.func46 #[.agg #[.bool ac,.slice ad aa.length ae]] F1 rfl rfl ?_
 refine(whole_of.calls _ ac _ _ _ aa x25 z26 _ (K.V 0 (hv hVs rfl)) A27.out).mono ?_
 rintro e W' ⟨v39,rfl,an,hb⟩
 replace K:=K.addI 0 (fun _=>True) hb an (fun _ h=>h.t)
 clear hb an
 refine⟨_,rfl,hK.out _ _ (HS.out _ _ _ _ K) fun hH=>?_⟩
 clear hK Kc
 refine norm_ (a':=?_) ?_ ?_
 rotate_left
 ·show Act.put _ (some 16) _=_
  simp only[Act.put,kss,i64_w,i32_w]
  rfl
 refine one_ (i:=3) (N:=some 18) (bm_ 13 15) rfl rfl (one_of HT_.out X0) J0 (fun Kc hK=>?_)
 obtain⟨P46,c47,e48⟩:=K.slice 3 (hv hVs rfl)
 subst e48
 refine kgo Tryz.func139 #[.agg #[.slice P46 x25.length c47,.bool z26],.agg #[.slice P15 x9.length c16,.bool z10]] F1 rfl rfl ?_
 refine(whole_number_cut.calls _ _ _ _ x25 z26 _ _ x9 z10 x28 z29 x30 z31 _ (K.V 3 (hv hVs rfl)) (K.C 2 (hv hVs rfl)) (K.le 2 (hv hVs rfl)) A32.out).mono ?_
 rintro e W' ⟨v40,v41,rfl,ao,ap,hb⟩
 have K1:=K.addI 1 (fun _=>True) hb ao (fun _ h=>h.t)
 replace K:=K.moreI 2 (fun _=>True) K1 ap (fun _ h=>h.t)
 clear K1
 clear hb ao ap
 refine⟨_,rfl,hK.out _ _ (HS.out _ _ _ _ K) fun hH=>?_⟩
 refine norm_ (a':=?_) ?_ ?_
 rotate_left
 ·show Act.put _ (some 18) _=_
  simp only[Act.put,kss,i64_w,i32_w]
  rfl
 refine pu_ 4 19 ?_ (bm_ 13 31) rfl rfl (any_of HT_.out X0) (fun _ _ _ h=>h) F1 ?_ ?_ ?_ ?_
 rotate_left
 ·intro w'
  go_simp
  with_reducible rfl
 rotate_left
 ·simp only[Act.put,kss,i64_w,i32_w]
  rfl
 refine pu_ 5 20 ?_ (bm_ 13 63) rfl rfl (any_of HT_.out X0) (fun _ _ _ h=>h) F1 ?_ ?_ ?_ ?_
 rotate_left
 ·intro w'
  go_simp
  with_reducible rfl
 rotate_left
 ·simp only[Act.put,kss,i64_w,i32_w]
  rfl
 clear hK Kc
 refine one_ (i:=6) (N:=some 21) (bm_ 13 127) rfl rfl (one_of HT_.out X0) J0 (fun Kc hK=>?_)
 obtain⟨P51,c52,e53⟩:=K.slice 4 (hv hVs rfl)
 subst e53
 obtain⟨P54,c55,e56⟩:=K.slice 5 (hv hVs rfl)
 subst e56
 refine kgo Tryz.func143 #[.agg #[.slice P51 x28.length c52,.bool z29],.agg #[.slice P54 x30.length c55,.bool z31]] F1 rfl rfl ?_
 refine(whole_pair.calls _ _ _ x28 z29 _ _ x30 z31 z33 x34 z35 x36 n37 _ (K.C 4 (hv hVs rfl)) (K.le 4 (hv hVs rfl)) (K.C 5 (hv hVs rfl)) (K.le 5 (hv hVs rfl)) A38.out).mono ?_
 rintro e W' ⟨v42,v43,rfl,aq,ar,hb⟩
 replace K:=K.addR2I 3 0 hb aq ar (lb rfl)
 clear hb aq ar
 refine⟨_,rfl,hK.out _ _ (HS.out _ _ _ _ K) fun hH=>?_⟩
 refine norm_ (a':=?_) ?_ ?_
 rotate_left
 ·show Act.put _ (some 21) _=_
  simp only[Act.put,kss,i64_w,i32_w]
  rfl
 refine pu_ 7 22 ?_ (bm_ 13 255) rfl rfl (any_of HT_.out X0) (fun _ _ _ h=>h) F1 ?_ ?_ ?_ ?_
 rotate_left
 ·intro w'
  go_simp
  with_reducible rfl
 rotate_left
 ·simp only[Act.put,kss,i64_w,i32_w]
  rfl
 refine pu_ 8 23 ?_ (bm_ 13 511) rfl rfl (any_of HT_.out X0) (fun _ _ _ h=>h) F1 ?_ ?_ ?_ ?_
 rotate_left
 ·intro w'
  go_simp
  with_reducible rfl
 rotate_left
 ·simp only[Act.put,kss,i64_w,i32_w]
  rfl
 refine pu_ 9 24 ?_ (bm_ 13 1023) rfl rfl (any_of HT_.out X0) (fun _ _ _ h=>h) F1 ?_ ?_ ?_ ?_
 rotate_left
 ·intro w'
  go_simp
  with_reducible rfl
 rotate_left
 ·simp only[Act.put,kss,i64_w,i32_w]
  rfl
 clear hK Kc
 obtain⟨P59,c60,e61⟩:=K.slice 6 (hv hVs rfl)
 subst e61
 obtain⟨P62,c63,e64⟩:=K.slice 7 (hv hVs rfl)
 subst e64
 rw[hBs.out,hVs.out,hOs.out]at K
 simp only[kls,klv]at K
 clear hBs hVs hOs HS hH
 refine ko2 (i:=10) (bm_ 13 2047) 2 (.bool z33) (.slice P59 x34.length c60) K rfl rfl rfl (one_of HT_.out X0) J0 F1 (fun W K=>⟨K.cell 0 rfl 0 rfl,K.cell 0 rfl 1 rfl,K.cell 4 rfl 0 rfl,K.cell 4 rfl 1 rfl⟩) ?_
 clear K
 intro W65 K
 simp only[kls,klv]at K
 refine ko2 (i:=11) (bm_ 13 4095) 3 (.bool z35) (.slice P62 x36.length c63) K rfl rfl rfl (one_of HT_.out X0) J0 F1 (fun W K=>⟨K.cell 0 rfl 0 rfl,K.cell 0 rfl 1 rfl,K.cell 4 rfl 0 rfl,K.cell 4 rfl 1 rfl⟩) ?_
 clear K
 intro W66 K
 simp only[kls,klv]at K
 refine pu_ 12 6 ?_ (bm_ 13 8191) rfl rfl (any_of HT_.out X0) (fun _ _ _ h=>h) F1 ?_ ?_ ?_ ?_
 rotate_left
 ·intro w'
  go_simp
  with_reducible rfl
 rotate_left
 ·simp only[Act.put,kss,i64_w,i32_w]
  rfl
 refine done_ (done_of HT_.out X0) ?_
 clear HT_ HW_
 simp only[Option.some.injEq,Prod.mk.injEq]at h
 obtain⟨rfl,rfl,rfl,rfl,rfl⟩:=h
 go_wp2
 refine bodyPost_ret (results_list (rs:=[.cell 4 25,.cell 5 25,.tmp 6]) rfl Z1 (.cell g5 25 #[.bool z33,.slice P59 x34.length c60] (0,0) _ rfl (K.u.heap 2 rfl) Tryz.underlying25 rfl X0 (.cell g7 25 #[.bool z35,.slice P62 x36.length c63] (0,0) _ rfl (K.u.heap 3 rfl) Tryz.underlying25 rfl X0 (.tmp .nil)))) rfl ?_
 exact⟨_,_,rfl,K.u.Rne 0 rfl rfl fun k_ h_=>K.apart 0 1 rfl rfl J0 k_ h_,K.u.Rne 1 rfl rfl fun k_ h_=>K.apart 1 0 rfl rfl J0 k_ h_,K.u.below⟩
end Go.Proofs.YtncomlmhagaajaaGreatDoor.PRp
namespace Go.Proofs.YtncomlmhagaajaaGreatDoor.PRp
open Go Go.RowKit Go.Proofs.YtncomlmhagaajaaGreatDoorW.PrintWords Go.Proofs.YtncomlmhagaajaaGreatDoorW.PrintLast Go.Proofs.YtncomlmhagaajaaGreatDoorW.PrintMore Go.Proofs.YtncomlmhagaajaaGreatDoor.Mine
inductive Cells25 (W:World):List Value→List S25→Prop
 | nil:Cells25 W [] []
 | cons {b:Bool} {A:Option Addr} {c:Nat} {l:List Int} {rest:List Value} {xs:List S25} (hl:l.length≤c) (hC:Kd.C (Kd.int .u64) W A l.length l) (h:Cells25 W rest xs):Cells25 W (.bool b::.slice A l.length c::rest) (⟨b,l⟩::xs)
theorem Cells25.get {W:World} {l:List Value} {xs:List S25} (h:Cells25 W l xs):∀(i:Nat) (x:S25),xs[i]? = some x→∃A c,l[i*2]? = some (.bool x.f0)∧l[i*2+1]? = some (.slice A x.f1.length c)∧x.f1.length≤c∧Kd.C (Kd.int .u64) W A x.f1.length x.f1:=by
 induction h with
 | nil=>intro i x hx;simp at hx
 | @cons b A c m rest xs hl hC h ih=>
  intro i x hx
  cases i with
  | zero=>
   have:x=⟨b,m⟩:=by simpa using hx.symm
   subst this
   exact⟨A,c,rfl,rfl,hl,hC⟩
  | succ i=>
   obtain⟨A',c',h1,h2,h3,h4⟩:=ih i x (by simpa using hx)
   refine⟨A',c',?_,?_,h3,h4⟩
   ·rw[show(i+1)*2=i*2+1+1 from by omega];simpa using h1
   rw[show(i+1)*2+1=i*2+1+1+1 from by omega];simpa using h2
theorem C25 {W:World} {g:Nat} {t:TypeId} {cs:List Value} {xs:List S25} (h:W.heap[g]? = some (.cells cs.toArray t (0,0))) (hx:Cells25 W cs xs) (hm:xs.length≤9223372036854775807:=by exact Nat.le_of_ble_eq_true rfl):Kd.C k25 W (some ⟨g,0,none⟩) xs.length xs:=by
 refine⟨rfl,hm,fun _=>⟨⟨g,0,none⟩,rfl,fun j q hj=>?_⟩⟩
 obtain⟨A,c,h1,h2,h3,h4⟩:=hx.get j q hj
 refine⟨_,rfl,k25_mk W q h3 h4,fun i u hi=>?_⟩
 have hz:(Addr.add ⟨g,0,none⟩ (j*k25.sz+i))=⟨g,j*2+i,none⟩:=by
  show(Addr.add ⟨g,0,none⟩ (j*2+i))=_
  unfold Addr.add
  split<;>simp_all
 rw[hz]
 refine(blk_cell h _).trans ?_
 match i,hi with
 | 0,hi=>
  have:Value.bool q.f0=u:=by simpa using hi
  subst this
  simpa using h1
 | 1,hi=>
  have:Value.slice A q.f1.length c=u:=by simpa using hi
  subst this
  simpa using h2
section
variable {P:Program} {ops:Array Oper} {Q:Exit→Act→World→Prop}
theorem kbls {rest:List Oper} {o:Oper} {a:Act} {W:World} (cs:Array Value) (t:TypeId) (n:Nat)
  (h:∀g,g=W.heap.size→∀w1,w1.heap[g]? = some (.cells cs t (0,0))→Below W.heap.size W w1→wpList P ops Q rest (a.put o.dst (.slice (some ⟨g,0,none⟩) n n)) w1)
  (hgd:o.guard=none:=by rfl) (hrun:(execOp a.eval o).run P W=.ok (.value (.slice (some ⟨W.heap.size,0,none⟩) n n)) (W.alloc (.cells cs t (0,0))):=by first|(go_simp;done)|(go_simp;rfl)):wpList P ops Q (o::rest) a W:=
 Kd.event_run hgd hrun (h _ rfl _ (blk_new W _) (below_alloc (Below.refl _ _) _))
end
end Go.Proofs.YtncomlmhagaajaaGreatDoor.PRp
namespace Go.Proofs.YtncomlmhagaajaaGreatDoor.PRp
open Go.RowKit Go.Proofs.YtncomlmhagaajaaGreatDoorW.PrintWords Go.Proofs.YtncomlmhagaajaaGreatDoorW.PrintLast Go.Proofs.YtncomlmhagaajaaGreatDoorW.PrintMore
open Go.Proofs.YtncomlmhagaajaaGreatDoor.Mine
attribute [local go_sem] max2_int min2_int max_two min_two max_three min_three max_four min_four
def ratio_fraction_low.f (k:Nat) (a0_0:Bool) (l0_1:List Int) (a0_2:Bool) (l0_3:List Int):Option (Bool×List Int×Bool×List Int):=(whole_Gcd.f k (([(⟨a0_0,l0_1⟩:S25),(⟨a0_2,l0_3⟩:S25)]:List (S25)))).bind fun bt370=>((whole_Quo.f k a0_0 l0_1 bt370.1 bt370.2.1).bind fun bt376=>((whole_Quo.f k a0_2 l0_3 bt370.1 bt370.2.1).bind fun bt387=>(some (bt376.1,bt376.2.1,bt387.1,bt387.2.1))))
theorem ratio_fraction_low.calls (k:Nat) (ac:Bool) (P0_1_:Nat→Prop) (ae:Option Addr) (af:Nat) (aa:List Int) (ad:Bool) (P0_3_:Nat→Prop) (ag:Option Addr) (ah:Nat) (ab:List Int) (r1:Bool) (r2:List Int) (r3:Bool) (r4:List Int) (w:World) (ai:Kd.V (Kd.int .u64) 91 w w.heap.size (fun k_=>P0_1_ k_) (.slice ae aa.length af) aa) (aj:Kd.V (Kd.int .u64) 91 w w.heap.size (fun k_=>P0_3_ k_) (.slice ag ab.length ah) ab) (h:ratio_fraction_low.f k ac aa ad ab=some (r1,r2,r3,r4)) :
  Calls Tryz.prog 43 #[.agg #[.bool ac,.slice ae aa.length af,.bool ad,.slice ag ab.length ah]] w fun e w'=>∃v1_ v3_:Value,e=.returned (.agg #[.bool r1,v1_,.bool r3,v3_])∧Kd.R (Kd.int .u64) 91 w' w.heap.size (fun k_=>(w.heap.size≤k_)∧some k_≠(v3_:Value).ownBlock) v1_ r2∧Kd.R (Kd.int .u64) 91 w' w.heap.size (fun k_=>(w.heap.size≤k_)∧some k_≠(v1_:Value).ownBlock) v3_ r4∧Below w.heap.size w w':=by
 have ap:=Tryz.underlying25
 have aq:=Tryz.underlying65
 have ar:=Tryz.underlying67
 have K:=Kp.refl w
 replace K:=K.parV (Kd.V_mono (ok':=fun _=>True) ai (fun _ h=>trivial))
 clear ai
 replace K:=K.parV (Kd.V_mono (ok':=fun _=>True) aj (fun _ h=>trivial))
 clear aj
 try simp only[klv]at K
 rw[ratio_fraction_low.f]at h
 replace h:=bindA h
 obtain⟨⟨z7,x8,n9⟩,A10,h⟩:=h
 dsimp only at h
 replace h:=bindA h
 obtain⟨⟨z21,x22,z23,x24,n25⟩,A26,h⟩:=h
 dsimp only at h
 replace h:=bindA h
 obtain⟨⟨z46,x47,z48,x49,n50⟩,A51,h⟩:=h
 dsimp only at h
 simp only[Option.some.injEq,Prod.mk.injEq]at h
 obtain⟨rfl,rfl,rfl,rfl⟩:=h
 go_enter Tryz.func43,Tryz.ntmps43
 go_wp2_with (first|(refine gd 1 rfl ?_;refine kbk 1 #[.bool ac,.slice ae aa.length af,.bool ad,.slice ag ab.length ah] 67 K.u ?_;clear K;intro g1 W2 K)|(refine gd 2 rfl ?_;refine kbk 2 #[.bool false,.slice none 0 0,.bool false,.slice none 0 0] 67 K.u ?_;clear K;intro g3 W4 K;have ua0:=K.cell 0 rfl 0 rfl;have ub0:=K.cell 0 rfl 1 rfl;have uc0:=K.cell 0 rfl 2 rfl;have ud0:=K.cell 0 rfl 3 rfl)|(refine gd 18 rfl ?_;clear ua0 ub0 uc0 ud0;refine kbls #[.bool ac,.slice ae aa.length af,.bool ad,.slice ag ab.length ah] 25 2 ?_;intro g5 hg W6 hx hb;replace K:=K.u.box hg hx hb;clear hg hx hb)|(refine gd 19 rfl ?_;refine kgl (some 19) rfl rfl Tryz.func103 #[.slice (some ⟨g5,0,none⟩) 2 2] rfl ?_;refine(whole_Gcd.calls _ _ _ ([⟨ac,aa⟩,⟨ad,ab⟩]:List S25) z7 x8 n9 _ (C25 (K.heap 2 rfl) (.cons (K.le 0 rfl) (K.C 0 rfl) (.cons (K.le 1 rfl) (K.C 1 rfl) .nil))) (Nat.le_refl _) A10.out).mono ?_;rintro e W13 ⟨v11,rfl,ak,hb⟩;refine⟨_,rfl,?_⟩;replace K:=K.u.addRE hb ak;clear hb ak;obtain⟨P14,c15,e16⟩:=K.slice 2 rfl;subst e16)|(refine gd 3 rfl ?_;refine kbk 3 #[.bool false,.slice none 0 0] 25 K.u ?_;clear K;intro g17 W18 K)|(refine gs 25 3 20 rfl ?_;refine ks2 3 (.bool z7) (.slice P14 x8.length c15) K.u rfl ?_;clear K;intro W19 K;simp only[kls,klv]at K;have ua0:=K.cell 0 rfl 0 rfl;have ub0:=K.cell 0 rfl 1 rfl;have uc0:=K.cell 0 rfl 2 rfl;have ud0:=K.cell 0 rfl 3 rfl;obtain⟨ua3,ub3⟩:=K.cell2 3 rfl)|(refine gd 27 rfl ?_;clear ua0 ub0 uc0 ud0 ua3 ub3;refine kgl (some 27) rfl rfl Tryz.func104 #[.agg #[.bool ac,.slice ae aa.length af],.agg #[.bool z7,.slice P14 x8.length c15]] rfl ?_;refine(whole_Quo.calls _ ac _ _ aa z7 _ _ x8 z21 x22 z23 x24 n25 _ (K.C 0 rfl) (K.le 0 rfl) (K.C 2 rfl) (K.le 2 rfl) A26.out).mono ?_;rintro e W31 ⟨v27,v28,rfl,al,am,hb⟩;refine⟨_,rfl,?_⟩;replace K:=K.u.addR2 hb al am;clear hb al am;obtain⟨P32,c33,e34⟩:=K.slice 3 rfl;subst e34;obtain⟨P35,c36,e37⟩:=K.slice 4 rfl;subst e37)|(refine gd 5 rfl ?_;refine kbk 5 #[.bool false,.slice none 0 0] 25 K.u ?_;clear K;intro g38 W39 K)|(refine gd 6 rfl ?_;refine kbk 6 #[.bool false,.slice none 0 0] 25 K.u ?_;clear K;intro g40 W41 K)|(refine gs 25 5 28 rfl ?_;refine ks2 4 (.bool z21) (.slice P32 x22.length c33) K.u rfl ?_;clear K;intro W42 K;simp only[kls,klv]at K)|(refine gs 25 6 29 rfl ?_;refine ks2 5 (.bool z23) (.slice P35 x24.length c36) K.u rfl ?_;clear K;intro W44 K;simp only[kls,klv]at K;have ua0:=K.cell 0 rfl 0 rfl;have ub0:=K.cell 0 rfl 1 rfl;have uc0:=K.cell 0 rfl 2 rfl;have ud0:=K.cell 0 rfl 3 rfl;obtain⟨ua3,ub3⟩:=K.cell2 3 rfl)|(refine gd 36 rfl ?_;clear ua0 ub0 uc0 ud0 ua3 ub3;refine kgl (some 36) rfl rfl Tryz.func104 #[.agg #[.bool ad,.slice ag ab.length ah],.agg #[.bool z7,.slice P14 x8.length c15]] rfl ?_;refine(whole_Quo.calls _ ad _ _ ab z7 _ _ x8 z46 x47 z48 x49 n50 _ (K.C 1 rfl) (K.le 1 rfl) (K.C 2 rfl) (K.le 2 rfl) A51.out).mono ?_;rintro e W56 ⟨v52,v53,rfl,an,ao,hb⟩;refine⟨_,rfl,?_⟩;replace K:=K.u.addR2 hb an ao;clear hb an ao;obtain⟨P57,c58,e59⟩:=K.slice 5 rfl;subst e59;obtain⟨P60,c61,e62⟩:=K.slice 6 rfl;subst e62)|(refine gd 8 rfl ?_;refine kbk 8 #[.bool false,.slice none 0 0] 25 K.u ?_;clear K;intro g63 W64 K)|(refine gd 9 rfl ?_;refine kbk 9 #[.bool false,.slice none 0 0] 25 K.u ?_;clear K;intro g65 W66 K)|(refine gs 25 8 37 rfl ?_;refine ks2 6 (.bool z46) (.slice P57 x47.length c58) K.u rfl ?_;clear K;intro W67 K;simp only[kls,klv]at K)|(refine gs 25 9 38 rfl ?_;refine ks2 7 (.bool z48) (.slice P60 x49.length c61) K.u rfl ?_;clear K;intro W69 K;simp only[kls,klv]at K;obtain⟨ua4,ub4⟩:=K.cell2 4 rfl;obtain⟨ua6,ub6⟩:=K.cell2 6 rfl)|(refine gs 67 2 44 rfl ?_;clear ua4 ub4 ua6 ub6;refine kstN 1 0 [.bool z21,.slice P32 x22.length c33,.bool z46,.slice P57 x47.length c58] K.u rfl ?q72 ?_;(case q72=>intro hc hf;have c0:=hc 0 _ rfl;have f0:=hf 0;have c1:=hc 1 _ rfl;have f1:=hf 1;have c2:=hc 2 _ rfl;have f2:=hf 2;have c3:=hc 3 _ rfl;have f3:=hf 3;clear hc hf;first|(go_simp;done)|(go_simp;rfl));clear K;intro W71 K;simp only[kls,klv,kpl,kss]at K))
 refine bodyPost_ret (results_single rfl (.cell g3 67 #[.bool z21,.slice P32 x22.length c33,.bool z46,.slice P57 x47.length c58] (0,0) _ rfl (K.u.heap 1 rfl) Tryz.underlying67 rfl X0 .nil)) rfl ?_
 exact⟨_,_,rfl,K.u.Rne 1 rfl rfl fun k_ h_=>⟨Kd.R_base (K.R 1 rfl) k_ h_,K.apart 1 3 rfl rfl J0 k_ h_⟩,K.u.Rne 3 rfl rfl fun k_ h_=>⟨Kd.R_base (K.R 3 rfl) k_ h_,K.apart 3 1 rfl rfl J0 k_ h_⟩,K.u.below⟩
def whole_Of.f (k:Nat) (a0:Int):Option (Bool×List Int):=if a0<0 then((whole_trimmed.f k (([IntKind.u64.wrap (-(IntKind.u64.wrap (a0)))]:List Int))).bind fun t402=>((whole_signed.f t402 true).bind fun bt405=>((whole_number_out.f bt405.1 bt405.2).bind fun bt409=>(some (bt409.1,bt409.2))))) else((whole_trimmed.f k (([IntKind.u64.wrap (a0)]:List Int))).bind fun t416=>((whole_signed.f t416 false).bind fun bt419=>((whole_number_out.f bt419.1 bt419.2).bind fun bt423=>(some (bt423.1,bt423.2)))))
theorem whole_Of.mono:∀a0 k,LeO (whole_Of.f k a0) (whole_Of.f (k+1) a0):=by
 intro a0 k
 unfold whole_Of.f
 repeat' first
   | (with_reducible exact whole_trimmed.mono _ _)
   | (with_reducible exact LeO.refl _)
   | (with_reducible exact LeO.none _)
   | (with_reducible refine LeO.ite ?_ ?_)
   | (with_reducible refine LeO.bind ?_ (fun _=>?_))
   | exact whole_trimmed.mono _ _
   | exact LeO.none _
   | refine LeO.ite ?_ ?_
   | refine LeO.bind ?_ (fun _=>?_)
theorem whole_Of.calls (k:Nat) (a0:Int) (r1:Bool) (r2:List Int) (w:World) (h:whole_Of.f k a0=some (r1,r2)) :
  Calls Tryz.prog 44 #[.int .i64 a0] w fun e w'=>∃v1_:Value,e=.returned (.agg #[.bool r1,v1_])∧Kd.R (Kd.int .u64) 91 w' w.heap.size (fun _=>True) v1_ r2∧Below w.heap.size w w':=by
 have bo:=Tryz.underlying25
 have HB:=Aside0.mk (Below.refl w.heap.size w)
 have H:(if a0<0 then((whole_trimmed.f k (([IntKind.u64.wrap (-(IntKind.u64.wrap (a0)))]:List Int))).bind fun ai=>((whole_signed.f ai true).bind fun ag=>((whole_number_out.f ag.1 ag.2).bind fun ac=>(some (ac.1,ac.2))))) else((whole_trimmed.f k (([IntKind.u64.wrap (a0)]:List Int))).bind fun aj=>((whole_signed.f aj false).bind fun ah=>((whole_number_out.f ah.1 ah.2).bind fun ad=>(some (ad.1,ad.2))))))=some (r1,r2):=h
 clear h
 by_cases c2:a0<0
 ·rw[if_pos c2]at H
  have aS:decide (a0<0)=true:=decide_eq_true c2
  clear c2
  obtain⟨av,am⟩:∃y_:List Int,y_=(([IntKind.u64.wrap (-(IntKind.u64.wrap (a0)))]:List Int)):=⟨_,rfl⟩
  replace H:((whole_trimmed.f k av).bind fun ai=>((whole_signed.f ai true).bind fun ag=>((whole_number_out.f ag.1 ag.2).bind fun ac=>(some (ac.1,ac.2)))))=some (r1,r2):=by first|(rw[am];with_reducible exact H)|(have H2_:=(Option.bind_some _ _).symm.trans H;rw[am];with_reducible exact H2_)|(have H2_:=(Option.bind_some _ _).symm.trans H;with_reducible exact H2_)|with_reducible exact H|(rw[am];exact H)|exact H
  have aE:=Aside0.mk am
  clear am
  replace H:=Option.bind_eq_some_iff.mp H
  obtain⟨ai,A30,H⟩:=H
  replace H:((whole_signed.f ai true).bind fun ag=>((whole_number_out.f ag.1 ag.2).bind fun ac=>(some (ac.1,ac.2))))=some (r1,r2):=H
  have A3:=Aside0.mk A30
  clear A30
  replace H:=Option.bind_eq_some_iff.mp H
  obtain⟨⟨aw,ax⟩,A40,H⟩:=H
  replace H:((whole_number_out.f aw ax).bind fun ac=>(some (ac.1,ac.2)))=some (r1,r2):=H
  have A4:=Aside0.mk A40
  clear A40
  replace H:=Option.bind_eq_some_iff.mp H
  obtain⟨⟨aq,ay⟩,A50,H⟩:=H
  replace H:(some (aq,ay))=some (r1,r2):=H
  have A5:=Aside0.mk A50
  clear A50
  simp only[Option.some.injEq,Prod.mk.injEq]at H
  obtain⟨rfl,rfl⟩:=H
  go_enter Tryz.func44,Tryz.ntmps44
  go_wp2_with (first|(refine gd 2 rfl ?_;refine kbe 2 #[.bool false,.slice none 0 0] 25 ?_;intro ab hg w6 hbox hb;have aa:=Aside0.mk (hbox);have aR:=kbz hg HB;have az:=kbz hg HB;replace HB:=kbs HB hb;clear hb hbox hg)|(refine gd 11 rfl ?_;refine Kd.R_lit (Kd.int .u64) _ 91 ?hg (N:=11) ?hd (xs:=([IntKind.u64.wrap (-(IntKind.u64.wrap (a0)))]:List Int)) (inner:=[.int .u64 (IntKind.u64.wrap (-(IntKind.u64.wrap (a0))))]) (ok:=fun _=>True) (okp:=fun _=>True) ?hr ?hp (fun _ hk=>hk) trivial (Below.refl _ _) (Nat.le_refl _) Z1 ?_;(case hd=>rfl);(case hg=>rfl);(case hr=>first|(go_simp;done)|(go_simp;rfl));(case hp=>exact(Reps.one (show Kd.M (Kd.int .u64) _ _ _ (IntKind.u64.wrap (-(IntKind.u64.wrap (a0)))) [.int .u64 (IntKind.u64.wrap (-(IntKind.u64.wrap (a0))))] from rfl) (Reps.none _ _)));intro bp w7 ho8 hb hg_ hnew_;clear hg_ hnew_;(first|rw[←aE.out]at ho8|(simp only[Int.reduceToNat]at ho8;rw[←aE.out]at ho8));have ae:=Aside0.mk (Kd.R_lower ho8 (below_size (khu HB.out)));replace aa:=kbb aa hb;replace HB:=kbs HB hb;clear hb ho8;obtain⟨Ao9,co9,eo9⟩:=Kd.R_slice ae.out;subst eo9)|((with_reducible refine gate_callee (f:=79) rfl ?_);refine kgl (some 12) rfl rfl Tryz.func79 #[.slice Ao9 av.length co9] rfl ?_;(with_reducible refine(whole_trimmed.calls k (fun k_=>some k_=(.slice Ao9 av.length co9:Value).ownBlock) _ _ av ai _ ?side1 A3.out).mono ?_);(case side1=>exact Kd.R_V (Kd.R_tight rfl (Kd.R_types (ae.out) aa.out J0)));rintro e w10 ⟨bq,rfl,ho0,hb⟩;refine⟨_,rfl,?_⟩;have ak:=Aside0.mk (Kd.V_lower (Kd.V_mono (ok':=fun k_=>k_≠ab) ho0 (fun k_ hk_=>Or.elim hk_ (fun hs_=>((Kd.R_types (ae.out) aa.out J0).1 k_ hs_.symm).2) (kfb aa))) (below_size (khu HB.out)));replace ae:=krb ae hb;replace aa:=kbb aa hb;replace HB:=kbs HB hb;(try clear hb);(try clear hb2);(try clear hk);(try clear hi);(try clear ho0);obtain⟨aT,aU,aV⟩:=Kd.V_slice ak.out;subst aV)|((with_reducible refine gate_callee (f:=80) rfl ?_);refine kgl (some 15) rfl rfl Tryz.func80 #[.slice aT ai.length aU,.bool true] rfl ?_;(with_reducible refine(whole_signed.calls (fun k_=>k_≠ab) _ _ ai true aw ax _ ?side1 A4.out).mono ?_);(case side1=>exact ak.out);rintro e w12 ⟨br,rfl,ho0,hb⟩;refine⟨_,rfl,?_⟩;replace ae:=krb ae hb;replace ak:=kvb ak hb;have an:=Aside0.mk (Kd.V_lower (Kd.V_mono (ok':=fun k_=>k_≠ab) ho0 (fun k_ hk_=>Or.elim hk_ (fun hs_=>hs_) (kfb aa))) (below_size (khu HB.out)));replace aa:=kbb aa hb;replace HB:=kbs HB hb;(try clear hb);(try clear hb2);(try clear hk);(try clear hi);(try clear ho0);obtain⟨aW,aX,aY⟩:=Kd.V_slice an.out;subst aY)|((with_reducible refine gate_callee (f:=91) rfl ?_);refine kgl (some 16) rfl rfl Tryz.func91 #[.agg #[.slice aW aw.length aX,.bool ax]] rfl ?_;(with_reducible refine(whole_number_out.calls _ _ aw ax aq ay _ ?side1 ?side2 A5.out).mono ?_);(case side1=>repeat (first|exact(Kd.V_reads' an.out).2.2|(with_reducible refine Kd.C_alloc ?_ _)|(with_reducible refine Kd.C_drewN ?_ _)|(with_reducible refine Kd.C_drew ?_)));(case side2=>exact(Kd.V_reads' an.out).2.1);rintro e w14 ⟨bu,rfl,ho0,hb⟩;refine⟨_,rfl,?_⟩;replace ak:=Aside0.mk (Kd.V_elder' (kvu ak.out) (Kd.R_base ho0) hb);replace an:=Aside0.mk (Kd.V_elder' (kvu an.out) (Kd.R_base ho0) hb);have aF:=Aside0.mk (Kd.R_lower (Kd.R_new' ho0 (Kd.R_lt (kru ae.out))) (below_size (khu HB.out)));replace ae:=Aside0.mk (Kd.R_elder' (kru ae.out) (Kd.R_base ho0) hb);replace aa:=kbb aa hb;replace HB:=kbs HB hb;(try clear hb);(try clear hb2);(try clear hk);(try clear hi);(try clear ho0);have bf:w14.cell? ⟨ab,0,none⟩=some (.bool false):=(blk_cell aa.out 0).trans rfl;have bg:w14.cell? ⟨ab,1,none⟩=some (.slice none 0 0):=(blk_cell aa.out 1).trans rfl;have bh:=blk_frozen aa.out 0;have bi:=blk_frozen aa.out 1;obtain⟨aI,aJ,aZ⟩:=Kd.R_slice aF.out;subst aZ))
  refine bodyPost_ret (results_cell_row rfl _ _ ab 25 #[.bool aq,.slice aI ay.length aJ] (0,0) _ rfl (kpu #[.bool aq,.slice none 0 0] 1 (kpu #[.bool false,.slice none 0 0] 0 (kbu aa.out))) Tryz.underlying25 rfl X0) rfl ?_
  exact⟨_,B0,by(with_reducible repeat (first|apply Kd.R_alloc|apply Kd.R_drewN|apply Kd.R_drew));exact Kd.R_mono (Kd.R_far (p:=⟨ab,1,none⟩) (Kd.R_far (p:=⟨ab,0,none⟩) (Kd.R_types aF.out aa.out J0) (fun _ hk=>hk.2) (.bool aq)) (fun _ hk=>hk.2) (.slice aI ay.length aJ)) (fun _ hk=>trivial),by repeat (first|(with_reducible first|exact HB.out|apply below_alloc|apply pw_below_drewN|apply below_drew1|refine below_set ?_ az.out)|exact HB.out)⟩
 rw[if_neg c2]at H
 have aS:decide (a0<0)=false:=decide_eq_false c2
 clear c2
 obtain⟨aA,ao⟩:∃y_:List Int,y_=(([IntKind.u64.wrap (a0)]:List Int)):=⟨_,rfl⟩
 replace H:((whole_trimmed.f k aA).bind fun aj=>((whole_signed.f aj false).bind fun ah=>((whole_number_out.f ah.1 ah.2).bind fun ad=>(some (ad.1,ad.2)))))=some (r1,r2):=by first|(rw[ao];with_reducible exact H)|(have H2_:=(Option.bind_some _ _).symm.trans H;rw[ao];with_reducible exact H2_)|(have H2_:=(Option.bind_some _ _).symm.trans H;with_reducible exact H2_)|with_reducible exact H|(rw[ao];exact H)|exact H
 have aG:=Aside0.mk ao
 clear ao
 replace H:=Option.bind_eq_some_iff.mp H
 obtain⟨aj,aK,H⟩:=H
 replace H:((whole_signed.f aj false).bind fun ah=>((whole_number_out.f ah.1 ah.2).bind fun ad=>(some (ad.1,ad.2))))=some (r1,r2):=H
 have A17:=Aside0.mk aK
 clear aK
 replace H:=Option.bind_eq_some_iff.mp H
 obtain⟨⟨aB,aC⟩,aL,H⟩:=H
 replace H:((whole_number_out.f aB aC).bind fun ad=>(some (ad.1,ad.2)))=some (r1,r2):=H
 have A18:=Aside0.mk aL
 clear aL
 replace H:=Option.bind_eq_some_iff.mp H
 obtain⟨⟨ar,aD⟩,aM,H⟩:=H
 replace H:(some (ar,aD))=some (r1,r2):=H
 have A19:=Aside0.mk aM
 clear aM
 simp only[Option.some.injEq,Prod.mk.injEq]at H
 obtain⟨rfl,rfl⟩:=H
 go_enter Tryz.func44,Tryz.ntmps44
 go_wp2_with (first|(refine gd 2 rfl ?_;refine kbe 2 #[.bool false,.slice none 0 0] 25 ?_;intro ab hg w20 hbox hb;have aa:=Aside0.mk (hbox);have aR:=kbz hg HB;have az:=kbz hg HB;replace HB:=kbs HB hb;clear hb hbox hg)|(refine gd 11 rfl ?_;refine Kd.R_lit (Kd.int .u64) _ 91 ?hg (N:=11) ?hd (xs:=([IntKind.u64.wrap (a0)]:List Int)) (inner:=[.int .u64 (IntKind.u64.wrap (a0))]) (ok:=fun _=>True) (okp:=fun _=>True) ?hr ?hp (fun _ hk=>hk) trivial (Below.refl _ _) (Nat.le_refl _) Z1 ?_;(case hd=>rfl);(case hg=>rfl);(case hr=>first|(go_simp;done)|(go_simp;rfl));(case hp=>exact(Reps.one (show Kd.M (Kd.int .u64) _ _ _ (IntKind.u64.wrap (a0)) [.int .u64 (IntKind.u64.wrap (a0))] from rfl) (Reps.none _ _)));intro bv w21 au hb hg_ hnew_;clear hg_ hnew_;(first|rw[←aG.out]at au|(simp only[Int.reduceToNat]at au;rw[←aG.out]at au));have af:=Aside0.mk (Kd.R_lower au (below_size (khu HB.out)));replace aa:=kbb aa hb;replace HB:=kbs HB hb;clear hb au;obtain⟨aN,aO,bb⟩:=Kd.R_slice af.out;subst bb)|((with_reducible refine gate_callee (f:=79) rfl ?_);refine kgl (some 12) rfl rfl Tryz.func79 #[.slice aN aA.length aO] rfl ?_;(with_reducible refine(whole_trimmed.calls k (fun k_=>some k_=(.slice aN aA.length aO:Value).ownBlock) _ _ aA aj _ ?side1 A17.out).mono ?_);(case side1=>exact Kd.R_V (Kd.R_tight rfl (Kd.R_types (af.out) aa.out J0)));rintro e w24 ⟨bw,rfl,ho0,hb⟩;refine⟨_,rfl,?_⟩;have al:=Aside0.mk (Kd.V_lower (Kd.V_mono (ok':=fun k_=>k_≠ab) ho0 (fun k_ hk_=>Or.elim hk_ (fun hs_=>((Kd.R_types (af.out) aa.out J0).1 k_ hs_.symm).2) (kfb aa))) (below_size (khu HB.out)));replace af:=krb af hb;replace aa:=kbb aa hb;replace HB:=kbs HB hb;(try clear hb);(try clear hb2);(try clear hk);(try clear hi);(try clear ho0);obtain⟨Ao25,co25,bc⟩:=Kd.V_slice al.out;subst bc)|((with_reducible refine gate_callee (f:=80) rfl ?_);refine kgl (some 15) rfl rfl Tryz.func80 #[.slice Ao25 aj.length co25,.bool false] rfl ?_;(with_reducible refine(whole_signed.calls (fun k_=>k_≠ab) _ _ aj false aB aC _ ?side1 A18.out).mono ?_);(case side1=>exact al.out);rintro e w26 ⟨bx,rfl,ho0,hb⟩;refine⟨_,rfl,?_⟩;replace af:=krb af hb;replace al:=kvb al hb;have ap:=Aside0.mk (Kd.V_lower (Kd.V_mono (ok':=fun k_=>k_≠ab) ho0 (fun k_ hk_=>Or.elim hk_ (fun hs_=>hs_) (kfb aa))) (below_size (khu HB.out)));replace aa:=kbb aa hb;replace HB:=kbs HB hb;(try clear hb);(try clear hb2);(try clear hk);(try clear hi);(try clear ho0);obtain⟨Ao27,co27,bd⟩:=Kd.V_slice ap.out;subst bd)|((with_reducible refine gate_callee (f:=91) rfl ?_);refine kgl (some 16) rfl rfl Tryz.func91 #[.agg #[.slice Ao27 aB.length co27,.bool aC]] rfl ?_;(with_reducible refine(whole_number_out.calls _ _ aB aC ar aD _ ?side1 ?side2 A19.out).mono ?_);(case side1=>repeat (first|exact(Kd.V_reads' ap.out).2.2|(with_reducible refine Kd.C_alloc ?_ _)|(with_reducible refine Kd.C_drewN ?_ _)|(with_reducible refine Kd.C_drew ?_)));(case side2=>exact(Kd.V_reads' ap.out).2.1);rintro e w28 ⟨bz,rfl,ho0,hb⟩;refine⟨_,rfl,?_⟩;replace al:=Aside0.mk (Kd.V_elder' (kvu al.out) (Kd.R_base ho0) hb);replace ap:=Aside0.mk (Kd.V_elder' (kvu ap.out) (Kd.R_base ho0) hb);have aH:=Aside0.mk (Kd.R_lower (Kd.R_new' ho0 (Kd.R_lt (kru af.out))) (below_size (khu HB.out)));replace af:=Aside0.mk (Kd.R_elder' (kru af.out) (Kd.R_base ho0) hb);replace aa:=kbb aa hb;replace HB:=kbs HB hb;(try clear hb);(try clear hb2);(try clear hk);(try clear hi);(try clear ho0);have bj:w28.cell? ⟨ab,0,none⟩=some (.bool false):=(blk_cell aa.out 0).trans rfl;have bk:w28.cell? ⟨ab,1,none⟩=some (.slice none 0 0):=(blk_cell aa.out 1).trans rfl;have bl:=blk_frozen aa.out 0;have bn:=blk_frozen aa.out 1;obtain⟨aP,aQ,be⟩:=Kd.R_slice aH.out;subst be))
 refine bodyPost_ret (results_cell_row rfl _ _ ab 25 #[.bool ar,.slice aP aD.length aQ] (0,0) _ rfl (kpu #[.bool ar,.slice none 0 0] 1 (kpu #[.bool false,.slice none 0 0] 0 (kbu aa.out))) Tryz.underlying25 rfl X0) rfl ?_
 exact⟨_,B0,by(with_reducible repeat (first|apply Kd.R_alloc|apply Kd.R_drewN|apply Kd.R_drew));exact Kd.R_mono (Kd.R_far (p:=⟨ab,1,none⟩) (Kd.R_far (p:=⟨ab,0,none⟩) (Kd.R_types aH.out aa.out J0) (fun _ hk=>hk.2) (.bool ar)) (fun _ hk=>hk.2) (.slice aP aD.length aQ)) (fun _ hk=>trivial),by repeat (first|(with_reducible first|exact HB.out|apply below_alloc|apply pw_below_drewN|apply below_drew1|refine below_set ?_ az.out)|exact HB.out)⟩
def ratio_Text.f (k:Nat) (a0_0:Bool) (l0_1:List Int) (l0_2:List Int):Option (ByteArray×Int):=(ratio_made.f k a0_0 l0_1 l0_2).bind fun bt428=>(if bt428.2.2.2.2=0 then((ratio_fraction_low.f k bt428.1 bt428.2.1 bt428.2.2.1 bt428.2.2.2.1).bind fun bt438=>((whole_Print.f k bt438.1 bt438.2.1).bind fun bt446=>((whole_Of.f k 1).bind fun bt448=>((whole_Cmp.f k bt438.2.2.1 bt438.2.2.2 bt448.1 bt448.2).bind fun t452=>(if t452=0 then(none) else((whole_Print.f k bt438.2.2.1 bt438.2.2.2).bind fun bt453=>(if 1+bt453.1.size≤9223372036854775807 then(if bt446.1.size+((⟨#[47]⟩:ByteArray)++bt453.1).size≤9223372036854775807 then(some (bt446.1++((⟨#[47]⟩:ByteArray)++bt453.1),0)) else(none)) else(none)))))))) else(none))
theorem ratio_Text.calls (k:Nat) (az:Bool) (aB:Option Addr) (aC:Nat) (ao:List Int) (aD:Option Addr) (aE:Nat) (ap:List Int) (r1:ByteArray) (r2:Int) (w:World) (aM:Kd.C (Kd.int .u64) w aB ao.length ao) (aN:ao.length≤aC) (aO:Kd.C (Kd.int .u64) w aD ap.length ap) (aP:ap.length≤aE) (h:ratio_Text.f k az ao ap=some (r1,r2)) :
  Calls Tryz.prog 35 #[.agg #[.bool az,.slice aB ao.length aC,.slice aD ap.length aE]] w fun e w'=>e=.returned (.tuple #[.string r1,.int .i64 r2])∧Below w.heap.size w w':=by
 have cd:=Tryz.underlying27
 have ce:=Tryz.underlying67
 have cf:=Tryz.underlying25
 have aR:=Aside0.mk aM
 have aS:=Aside0.mk aN
 clear aM aN
 have aT:=Aside0.mk aO
 have aU:=Aside0.mk aP
 clear aO aP
 have HB:=Aside0.mk (Below.refl w.heap.size w)
 have H:((ratio_made.f k az ao ap).bind fun aF=>(if aF.2.2.2.2=0 then((ratio_fraction_low.f k aF.1 aF.2.1 aF.2.2.1 aF.2.2.2.1).bind fun ag=>((whole_Print.f k ag.1 ag.2.1).bind fun ax=>((whole_Of.f k 1).bind fun ak=>((whole_Cmp.f k ag.2.2.1 ag.2.2.2 ak.1 ak.2).bind fun aj=>(if aj=0 then(none) else((whole_Print.f k ag.2.2.1 ag.2.2.2).bind fun ab=>(if 1+ab.1.size≤9223372036854775807 then(if ax.1.size+((⟨#[47]⟩:ByteArray)++ab.1).size≤9223372036854775807 then(some (ax.1++((⟨#[47]⟩:ByteArray)++ab.1),0)) else(none)) else(none)))))))) else(none)))=some (r1,r2):=h
 clear h
 replace H:=Option.bind_eq_some_iff.mp H
 obtain⟨⟨al,ah,am,ai,aG⟩,A20,H⟩:=H
 replace H:(if aG=0 then((ratio_fraction_low.f k al ah am ai).bind fun ag=>((whole_Print.f k ag.1 ag.2.1).bind fun ax=>((whole_Of.f k 1).bind fun ak=>((whole_Cmp.f k ag.2.2.1 ag.2.2.2 ak.1 ak.2).bind fun aj=>(if aj=0 then(none) else((whole_Print.f k ag.2.2.1 ag.2.2.2).bind fun ab=>(if 1+ab.1.size≤9223372036854775807 then(if ax.1.size+((⟨#[47]⟩:ByteArray)++ab.1).size≤9223372036854775807 then(some (ax.1++((⟨#[47]⟩:ByteArray)++ab.1),0)) else(none)) else(none)))))))) else(none))=some (r1,r2):=H
 have A2:=Aside0.mk A20
 clear A20
 by_cases c3:aG=0
 ·rw [if_pos c3]at H
  have cg:(aG==0)=true:=beq_iff_eq.mpr c3
  have ch:(aG != 0)=false:=bne_eq_false_iff_eq.mpr c3
  clear c3
  replace H:=Option.bind_eq_some_iff.mp H
  obtain⟨⟨t438,t439,t442,t443⟩,A40,H⟩:=H
  replace H:((whole_Print.f k t438 t439).bind fun ax=>((whole_Of.f k 1).bind fun ak=>((whole_Cmp.f k t442 t443 ak.1 ak.2).bind fun aj=>(if aj=0 then(none) else((whole_Print.f k t442 t443).bind fun ab=>(if 1+ab.1.size≤9223372036854775807 then(if ax.1.size+((⟨#[47]⟩:ByteArray)++ab.1).size≤9223372036854775807 then(some (ax.1++((⟨#[47]⟩:ByteArray)++ab.1),0)) else(none)) else(none)))))))=some (r1,r2):=H
  have A4:=Aside0.mk A40
  clear A40
  replace H:=Option.bind_eq_some_iff.mp H
  obtain⟨⟨aq,aV⟩,A50,H⟩:=H
  replace H:((whole_Of.f k 1).bind fun ak=>((whole_Cmp.f k t442 t443 ak.1 ak.2).bind fun aj=>(if aj=0 then(none) else((whole_Print.f k t442 t443).bind fun ab=>(if 1+ab.1.size≤9223372036854775807 then(if aq.size+((⟨#[47]⟩:ByteArray)++ab.1).size≤9223372036854775807 then(some (aq++((⟨#[47]⟩:ByteArray)++ab.1),0)) else(none)) else(none))))))=some (r1,r2):=H
  have A5:=Aside0.mk A50
  clear A50
  replace H:=Option.bind_eq_some_iff.mp H
  obtain⟨⟨aH,aI⟩,A60,H⟩:=H
  replace H:((whole_Cmp.f k t442 t443 aH aI).bind fun aj=>(if aj=0 then(none) else((whole_Print.f k t442 t443).bind fun ab=>(if 1+ab.1.size≤9223372036854775807 then(if aq.size+((⟨#[47]⟩:ByteArray)++ab.1).size≤9223372036854775807 then(some (aq++((⟨#[47]⟩:ByteArray)++ab.1),0)) else(none)) else(none)))))=some (r1,r2):=H
  have A6:=Aside0.mk A60
  clear A60
  replace H:=Option.bind_eq_some_iff.mp H
  obtain⟨aj,A70,H⟩:=H
  replace H:(if aj=0 then(none) else((whole_Print.f k t442 t443).bind fun ab=>(if 1+ab.1.size≤9223372036854775807 then(if aq.size+((⟨#[47]⟩:ByteArray)++ab.1).size≤9223372036854775807 then(some (aq++((⟨#[47]⟩:ByteArray)++ab.1),0)) else(none)) else(none))))=some (r1,r2):=H
  have A7:=Aside0.mk A70
  clear A70
  by_cases c8:aj=0
  ·rw[if_pos c8]at H
   exact absurd H Z1
  rw[if_neg c8]at H
  have ci:(aj==0)=false:=beq_eq_false_iff_ne.mpr c8
  have cj:(aj != 0)=true:=bne_iff_ne.mpr c8
  replace H:=Option.bind_eq_some_iff.mp H
  obtain⟨⟨ay,aW⟩,A90,H⟩:=H
  replace H:(if 1+ay.size≤9223372036854775807 then(if aq.size+((⟨#[47]⟩:ByteArray)++ay).size≤9223372036854775807 then(some (aq++((⟨#[47]⟩:ByteArray)++ay),0)) else(none)) else(none))=some (r1,r2):=H
  have A9:=Aside0.mk A90
  clear A90
  by_cases c10:1+ay.size≤9223372036854775807
  ·rw[if_pos c10]at H
   have bU:=eq_true c10
   have bV:decide (1+ay.size≤9223372036854775807)=true:=decide_eq_true c10
   try have bW:(9223372036854775807<1+ay.size)=False:=eq_false (Nat.not_lt.2 c10)
   by_cases c11:aq.size+((⟨#[47]⟩:ByteArray)++ay).size≤9223372036854775807
   ·rw[if_pos c11]at H
    have bX:=eq_true c11
    have bY:decide (aq.size+((⟨#[47]⟩:ByteArray)++ay).size≤9223372036854775807)=true:=decide_eq_true c11
    try have bZ:(9223372036854775807<aq.size+((⟨#[47]⟩:ByteArray)++ay).size)=False:=eq_false (Nat.not_lt.2 c11)
    simp only[Option.some.injEq,Prod.mk.injEq]at H
    obtain⟨rfl,rfl⟩:=H
    go_enter Tryz.func35,Tryz.ntmps35
    try go_wp2_with (first|(refine gd 1 rfl ?_;refine kbe 1 #[.bool az,.slice aB ao.length aC,.slice aD ap.length aE] 27 ?_;intro an hg w12 hbox hb;have aa:=Aside0.mk (hbox);have GW427:=kbz hg HB;have aJ:=kbz hg HB;replace HB:=kbs HB hb;clear hb hbox hg;have be:w12.cell? ⟨an,0,none⟩=some (.bool az):=(blk_cell aa.out 0).trans rfl;have bf:w12.cell? ⟨an,1,none⟩=some (.slice aB ao.length aC):=(blk_cell aa.out 1).trans rfl;have bg:w12.cell? ⟨an,2,none⟩=some (.slice aD ap.length aE):=(blk_cell aa.out 2).trans rfl;have bh:=blk_frozen aa.out 0;have bi:=blk_frozen aa.out 1;have bj:=blk_frozen aa.out 2)|((with_reducible refine gate_callee (f:=37) rfl ?_);refine kgl (some 12) rfl rfl Tryz.func37 #[.agg #[.bool az,.slice aB ao.length aC,.slice aD ap.length aE]] rfl ?_;(with_reducible refine(ratio_made.calls k az (fun k_=>k_<w.heap.size) _ _ ao (fun k_=>k_<w.heap.size) _ _ ap al ah am ai aG _ ?side1 ?side2 A2.out).mono ?_);(case side1=>exact Kd.V_mk aS.out (Kd.F_below (Kd.C_F (Kd.heap_int .u64) aR.out) (khu HB.out)));(case side2=>exact Kd.V_mk aU.out (Kd.F_below (Kd.C_F (Kd.heap_int .u64) aT.out) (khu HB.out)));rintro e w14 ⟨ck,cl,rfl,ho0,ho1,hb⟩;refine⟨_,rfl,?_⟩;have ac:=Aside0.mk (Kd.V_lower (Kd.V_mono (ok':=fun k_=>k_≠an) ho0 (fun k_ hk_=>Or.elim hk_ (fun hs_=>Or.elim hs_ (fun hs_=>fun e_=>Nat.not_le.2 hs_ F9) (fun hs_=>fun e_=>Nat.not_le.2 hs_ F9)) (kfb aa))) (below_size (khu HB.out)));have ad:=Aside0.mk (Kd.V_lower (Kd.V_mono (ok':=fun k_=>k_≠an) ho1 (fun k_ hk_=>Or.elim hk_ (fun hs_=>Or.elim hs_ (fun hs_=>fun e_=>Nat.not_le.2 hs_ F9) (fun hs_=>fun e_=>Nat.not_le.2 hs_ F9)) (kfb aa))) (below_size (khu HB.out)));replace aa:=kbb aa hb;replace HB:=kbs HB hb;(try clear hb);(try clear hb2);(try clear hk);(try clear hi);(try clear ho0);(try clear ho1))|(refine gd 4 rfl ?_;refine kbe 4 #[.bool false,.slice none 0 0,.bool false,.slice none 0 0] 67 ?_;intro gb437 hg w15 hbox hb;replace ac:=Aside0.mk (Kd.V_below (Kd.V_elderB (kvu ac.out) gb437 (Nat.le_of_eq hg.symm)) hb);replace ad:=Aside0.mk (Kd.V_below (Kd.V_elderB (kvu ad.out) gb437 (Nat.le_of_eq hg.symm)) hb);have BK437:=Aside0.mk (hbox);have ca:=kbz hg HB;have aK:=kbz hg HB;replace HB:=kbs HB hb;have ae:=knl hg aa;have aL:=kng hg aa;replace aa:=kbb aa hb;clear hb hbox hg;have cb:=aL.out;have cc:=ae.out;have bk:w15.cell? ⟨gb437,0,none⟩=some (.bool false):=(blk_cell BK437.out 0).trans rfl;have bl:w15.cell? ⟨gb437,1,none⟩=some (.slice none 0 0):=(blk_cell BK437.out 1).trans rfl;have bn:w15.cell? ⟨gb437,2,none⟩=some (.bool false):=(blk_cell BK437.out 2).trans rfl;have bo:w15.cell? ⟨gb437,3,none⟩=some (.slice none 0 0):=(blk_cell BK437.out 3).trans rfl;have bp:=blk_frozen BK437.out 0;have bq:=blk_frozen BK437.out 1;have br:=blk_frozen BK437.out 2;have bu:=blk_frozen BK437.out 3;obtain⟨ar,au,aX⟩:=Kd.V_slice ac.out;subst aX;obtain⟨av,aw,aY⟩:=Kd.V_slice ad.out;subst aY)|((with_reducible refine gate_store (t:=67) (p:=4) rfl ?_);refine store_event (t:=67) (p:=4) (v:=?vo_w20) (w1:=((((w15.setCell ⟨gb437,0,none⟩ (.bool al)).setCell ⟨gb437,1,none⟩ (.slice ar ah.length au)).setCell ⟨gb437,2,none⟩ (.bool am)).setCell ⟨gb437,3,none⟩ (.slice av ai.length aw))) ?hg ?ho ?hn ?hr ?_;(case ho=>rfl);(case hg=>rfl);(case hn=>rfl);(case hr=>first|(go_simp;done)|(go_simp;rfl));intro w20 hw;have n0_:Aside0 (Kd.V (Kd.int .u64) 91 w20 w.heap.size (fun k_=>k_≠an∧k_≠gb437) (.slice ar ah.length au) ah):=⟨(by rw[hw];exact(by(with_reducible repeat (first|apply Kd.V_alloc|apply Kd.V_drewN|apply Kd.V_drew));exact Kd.V_mono (Kd.V_far (p:=⟨gb437,3,none⟩) (Kd.V_far (p:=⟨gb437,2,none⟩) (Kd.V_far (p:=⟨gb437,1,none⟩) (Kd.V_far (p:=⟨gb437,0,none⟩) (Kd.V_mono ac.out (fun k_ hk=>(⟨hk,hk.2⟩:_∧k_≠gb437))) (fun _ hk=>hk.2) (.bool al)) (fun _ hk=>hk.2) (.slice ar ah.length au)) (fun _ hk=>hk.2) (.bool am)) (fun _ hk=>hk.2) (.slice av ai.length aw)) (fun _ hk=>⟨hk.1.1,hk.1.2⟩)))⟩;have n1_:Aside0 (Kd.V (Kd.int .u64) 91 w20 w.heap.size (fun k_=>k_≠an∧k_≠gb437) (.slice av ai.length aw) ai):=⟨(by rw[hw];exact(by(with_reducible repeat (first|apply Kd.V_alloc|apply Kd.V_drewN|apply Kd.V_drew));exact Kd.V_mono (Kd.V_far (p:=⟨gb437,3,none⟩) (Kd.V_far (p:=⟨gb437,2,none⟩) (Kd.V_far (p:=⟨gb437,1,none⟩) (Kd.V_far (p:=⟨gb437,0,none⟩) (Kd.V_mono ad.out (fun k_ hk=>(⟨hk,hk.2⟩:_∧k_≠gb437))) (fun _ hk=>hk.2) (.bool al)) (fun _ hk=>hk.2) (.slice ar ah.length au)) (fun _ hk=>hk.2) (.bool am)) (fun _ hk=>hk.2) (.slice av ai.length aw)) (fun _ hk=>⟨hk.1.1,hk.1.2⟩)))⟩;have n2_:Aside0 (w20.heap[an]? = some (.cells #[.bool az,.slice aB ao.length aC,.slice aD ap.length aE] 27 (0,0))):=⟨(by rw[hw];exact(kfa ae (kfa ae (kfa ae (kfa ae (kbu aa.out))))))⟩;have n3_:Aside0 (w20.heap[gb437]? = some (.cells #[.bool al,.slice ar ah.length au,.bool am,.slice av ai.length aw] 67 (0,0))):=⟨(by rw[hw];exact(kpu #[.bool al,.slice ar ah.length au,.bool am,.slice none 0 0] 3 (kpu #[.bool al,.slice ar ah.length au,.bool false,.slice none 0 0] 2 (kpu #[.bool al,.slice none 0 0,.bool false,.slice none 0 0] 1 (kpu #[.bool false,.slice none 0 0,.bool false,.slice none 0 0] 0 (kbu BK437.out))))))⟩;have n4_:Aside0 (Below w.heap.size w w20):=⟨(by rw[hw];exact(by repeat (first|(with_reducible first|exact HB.out|apply below_alloc|apply pw_below_drewN|apply below_drew1|refine below_set ?_ aJ.out|refine below_set ?_ aK.out)|exact HB.out)))⟩;clear hw;clear ac;clear ad;clear aa;clear BK437;clear HB;have ac:=n0_;have ad:=n1_;have aa:=n2_;have BK437:=n3_;have HB:=n4_;clear n0_ n1_ n2_ n3_ n4_;have bv:w20.cell? ⟨gb437,0,none⟩=some (.bool al):=(blk_cell BK437.out 0).trans rfl;have bw:w20.cell? ⟨gb437,1,none⟩=some (.slice ar ah.length au):=(blk_cell BK437.out 1).trans rfl;have bx:w20.cell? ⟨gb437,2,none⟩=some (.bool am):=(blk_cell BK437.out 2).trans rfl;have bz:w20.cell? ⟨gb437,3,none⟩=some (.slice av ai.length aw):=(blk_cell BK437.out 3).trans rfl;have bA:=blk_frozen BK437.out 0;have bB:=blk_frozen BK437.out 1;have bC:=blk_frozen BK437.out 2;have bD:=blk_frozen BK437.out 3)|((with_reducible refine gate_callee (f:=43) rfl ?_);refine kgl (some 19) rfl rfl Tryz.func43 #[.agg #[.bool al,.slice ar ah.length au,.bool am,.slice av ai.length aw]] rfl ?_;(with_reducible refine(ratio_fraction_low.calls k al (fun k_=>(k_≠an∧k_≠gb437)) _ _ ah am (fun k_=>(k_≠an∧k_≠gb437)) _ _ ai t438 t439 t442 t443 _ ?side1 ?side2 A4.out).mono ?_);(case side1=>exact ac.out);(case side2=>exact ad.out);rintro e w22 ⟨aZ,bb,rfl,ho0,ho1,hb⟩;refine⟨_,rfl,?_⟩;replace ac:=Aside0.mk (Kd.V_mono (Kd.V_told (Kd.V_told (Kd.V_old (kvu ac.out) hb) (Kd.R_base ho0)) (Kd.R_base ho1)) (fun _ h_=>h_.1));replace ad:=Aside0.mk (Kd.V_mono (Kd.V_told (Kd.V_told (Kd.V_old (kvu ad.out) hb) (Kd.R_base ho0)) (Kd.R_base ho1)) (fun _ h_=>h_.1));have HO441:=Aside0.mk (Kd.R_lower (Kd.R_mono (ok':=fun k_=>some k_≠(bb:Value).ownBlock) ho0 (fun _ hk_=>hk_.2)) (below_size (khu HB.out)));have af:=Aside0.mk (Kd.R_lower (Kd.R_mono (ok':=fun k_=>some k_≠(aZ:Value).ownBlock) ho1 (fun _ hk_=>hk_.2)) (below_size (khu HB.out)));replace aa:=kbb aa hb;replace BK437:=kbb BK437 hb;replace HB:=kbs HB hb;(try clear hb);(try clear hb2);(try clear hk);(try clear hi);(try clear ho0);(try clear ho1);have bE:w22.cell? ⟨gb437,0,none⟩=some (.bool al):=(blk_cell BK437.out 0).trans rfl;have bF:w22.cell? ⟨gb437,1,none⟩=some (.slice ar ah.length au):=(blk_cell BK437.out 1).trans rfl;have bG:w22.cell? ⟨gb437,2,none⟩=some (.bool am):=(blk_cell BK437.out 2).trans rfl;have bH:w22.cell? ⟨gb437,3,none⟩=some (.slice av ai.length aw):=(blk_cell BK437.out 3).trans rfl;have bI:=blk_frozen BK437.out 0;have bJ:=blk_frozen BK437.out 1;have bK:=blk_frozen BK437.out 2;have bL:=blk_frozen BK437.out 3;obtain⟨Ao24,co24,bc⟩:=Kd.R_slice HO441.out;subst bc;obtain⟨Ao25,co25,bd⟩:=Kd.R_slice af.out;subst bd)|((with_reducible refine gate_callee (f:=31) rfl ?_);refine kgl (some 24) rfl rfl Tryz.func31 #[.agg #[.bool t438,.slice Ao24 t439.length co24]] rfl ?_;(with_reducible refine(whole_Print.calls k t438 _ _ t439 aq aV _ ?side1 ?side2 A5.out).mono ?_);(case side1=>refine(Kd.R_reads' (e:=91) (base:=w.heap.size) (ok:=fun k_=>some k_≠(.slice Ao25 t443.length co25:Value).ownBlock) (n:=t439.length) (c:=co24) ?_).2.2;exact X4);(case side2=>exact(Kd.R_reads' HO441.out).2.1);rintro e w26 ⟨rfl,hb⟩;refine⟨_,rfl,?_⟩;replace ac:=Aside0.mk (Kd.V_below (by(with_reducible repeat (first|apply Kd.V_alloc|apply Kd.V_drewN|apply Kd.V_drew));exact(Kd.V_mono (Kd.V_far (p:=⟨gb437,3,none⟩) (Kd.V_far (p:=⟨gb437,2,none⟩) (Kd.V_far (p:=⟨gb437,1,none⟩) (Kd.V_far (p:=⟨gb437,0,none⟩) (Kd.V_mono ac.out (fun k_ hk=>(⟨hk,hk.1.1.2⟩:_∧k_≠gb437))) (fun _ hk=>hk.2) (.bool t438)) (fun _ hk=>hk.2) (.slice Ao24 t439.length co24)) (fun _ hk=>hk.2) (.bool t442)) (fun _ hk=>hk.2) (.slice Ao25 t443.length co25)) (fun _ h_=>h_.1))) hb);replace ad:=Aside0.mk (Kd.V_below (by(with_reducible repeat (first|apply Kd.V_alloc|apply Kd.V_drewN|apply Kd.V_drew));exact(Kd.V_mono (Kd.V_far (p:=⟨gb437,3,none⟩) (Kd.V_far (p:=⟨gb437,2,none⟩) (Kd.V_far (p:=⟨gb437,1,none⟩) (Kd.V_far (p:=⟨gb437,0,none⟩) (Kd.V_mono ad.out (fun k_ hk=>(⟨hk,hk.1.1.2⟩:_∧k_≠gb437))) (fun _ hk=>hk.2) (.bool t438)) (fun _ hk=>hk.2) (.slice Ao24 t439.length co24)) (fun _ hk=>hk.2) (.bool t442)) (fun _ hk=>hk.2) (.slice Ao25 t443.length co25)) (fun _ h_=>h_.1))) hb);replace HO441:=Aside0.mk (Kd.R_below X4 hb);replace af:=Aside0.mk (Kd.R_below (by(with_reducible repeat (first|apply Kd.R_alloc|apply Kd.R_drewN|apply Kd.R_drew));exact(Kd.R_mono (Kd.R_far (p:=⟨gb437,3,none⟩) (Kd.R_far (p:=⟨gb437,2,none⟩) (Kd.R_far (p:=⟨gb437,1,none⟩) (Kd.R_far (p:=⟨gb437,0,none⟩) (Kd.R_types af.out BK437.out J0) (fun _ hk=>hk.2) (.bool t438)) (fun _ hk=>hk.2) (.slice Ao24 t439.length co24)) (fun _ hk=>hk.2) (.bool t442)) (fun _ hk=>hk.2) (.slice Ao25 t443.length co25)) (fun _ h_=>h_.1))) hb);replace aa:=Aside0.mk (blk_below (g:=an) (o:=.cells #[.bool az,.slice aB ao.length aC,.slice aD ap.length aE] 27 (0,0)) (kfa ae (kfa ae (kfa ae (kfa ae (kbu aa.out))))) hb);replace BK437:=Aside0.mk (blk_below (g:=gb437) (o:=.cells #[.bool t438,.slice Ao24 t439.length co24,.bool t442,.slice Ao25 t443.length co25] 67 (0,0)) (kpu #[.bool t438,.slice Ao24 t439.length co24,.bool t442,.slice av ai.length aw] 3 (kpu #[.bool t438,.slice Ao24 t439.length co24,.bool am,.slice av ai.length aw] 2 (kpu #[.bool t438,.slice ar ah.length au,.bool am,.slice av ai.length aw] 1 (kpu #[.bool al,.slice ar ah.length au,.bool am,.slice av ai.length aw] 0 (kbu BK437.out))))) hb);replace HB:=Aside0.mk (below_step (by repeat (first|(with_reducible first|exact HB.out|apply below_alloc|apply pw_below_drewN|apply below_drew1|refine below_set ?_ aJ.out|refine below_set ?_ aK.out)|exact HB.out)) hb);(try clear hb);(try clear hb2);(try clear hk);(try clear hi)))
    replace ac:=Aside0.mk (Kd.V_drew ac.out);replace ad:=Aside0.mk (Kd.V_drew ad.out);replace HO441:=Aside0.mk (Kd.R_drew HO441.out);replace af:=Aside0.mk (Kd.R_drew af.out);replace aa:=Aside0.mk (blk_drew aa.out);replace BK437:=Aside0.mk (blk_drew BK437.out);replace HB:=Aside0.mk (below_drew1 HB.out)
    refine start_ (n:=6) (S:=fun w'=>w'.cell? ⟨gb437,0,none⟩=some (.bool t438)∧w'.cell? ⟨gb437,1,none⟩=some (.slice Ao24 t439.length co24)∧w'.cell? ⟨gb437,2,none⟩=some (.bool t442)∧w'.cell? ⟨gb437,3,none⟩=some (.slice Ao25 t443.length co25)) (ds:=[]) (bm_ 6 0) X0 rfl rfl ⟨(blk_cell BK437.out 0).trans rfl,(blk_cell BK437.out 1).trans rfl,(blk_cell BK437.out 2).trans rfl,(blk_cell BK437.out 3).trans rfl⟩ (fun hHeld=>?_)
    generalize w26.drew=w27 at ac ad HO441 af aa BK437 HB hHeld ⊢
    refine pu_ 0 27 ?_ (bm_ 6 1) rfl rfl X0 (fun _ _ _ h=>h) F1 ?_ ?_ ?_ ?_
    rotate_left
    ·intro w'
     go_simp
     with_reducible rfl
    rotate_left
    ·simp only[Act.put,kss,i64_w,i32_w]
     rfl
    refine pu_ 1 28 ?_ (bm_ 6 3) rfl rfl X0 (fun _ _ _ h=>h) F1 ?_ ?_ ?_ ?_
    rotate_left
    ·intro w'
     go_simp
     with_reducible rfl
    rotate_left
    ·simp only[Act.put,kss,i64_w,i32_w]
     rfl
    refine tk_ 2 29 ?_ (bm_ 6 7) rfl rfl X0 (fun _ _ _ h=>h) F1 ?_ hHeld ?_ ?_ ?_
    rotate_left
    ·rintro w' ⟨s0,s1,s2,s3⟩
     go_simp
     with_reducible rfl
    rotate_left
    ·simp only[Act.put,kss,i64_w,i32_w]
     rfl
    refine one_ (i:=3) (N:=some 30) (bm_ 6 15) rfl rfl X0 J0 (fun K hK=>?_)
    refine kgo Tryz.func44 #[.int .i64 1] F1 rfl rfl ?_
    with_reducible refine(whole_Of.calls k 1 aH aI _ A6.out).mono ?_
    rintro e w28 ⟨cm,rfl,ho0,hb⟩
    refine⟨_,rfl,?_⟩
    replace ac:=Aside0.mk (Kd.V_elder' (kvu ac.out) (Kd.R_base ho0) hb);replace ad:=Aside0.mk (Kd.V_elder' (kvu ad.out) (Kd.R_base ho0) hb);have aA:=Aside0.mk (Kd.R_lower (Kd.R_new' (Kd.R_new' ho0 (Kd.R_lt (kru HO441.out))) (Kd.R_lt (kru af.out))) (below_size (khu HB.out)));replace HO441:=Aside0.mk (Kd.R_elder' (kru HO441.out) (Kd.R_base ho0) hb);replace af:=Aside0.mk (Kd.R_elder' (kru af.out) (Kd.R_base ho0) hb);replace aa:=kbb aa hb;replace BK437:=kbb BK437 hb;replace HB:=kbs HB hb
    (try clear hb);(try clear hb2);(try clear hk);(try clear hi);(try clear ho0)
    obtain⟨Ao29,co29,aQ⟩:=Kd.R_slice aA.out
    (first|subst aQ|(injection aQ with f1_ f2_ f3_;have f4_:=f1_.symm;have f5_:=f3_.symm;clear f1_ f2_ f3_;subst f4_;subst f5_))
    refine hK.out _ _ ⟨(blk_cell BK437.out 0).trans rfl,(blk_cell BK437.out 1).trans rfl,(blk_cell BK437.out 2).trans rfl,(blk_cell BK437.out 3).trans rfl⟩ (fun hHeld=>?_)
    clear hK K
    refine norm_ (a':=?_) ?_ ?_
    rotate_left
    ·show Act.put _ (some 30) _=_
     simp only[Act.put,kss,i64_w,i32_w]
     rfl
    refine one_ (i:=4) (N:=some 31) (bm_ 6 31) rfl rfl X0 J0 (fun K hK=>?_)
    refine kgo Tryz.func15 #[.agg #[.bool t442,.slice Ao25 t443.length co25],.agg #[.bool aH,.slice Ao29 aI.length co29]] F1 rfl rfl ?_
    with_reducible refine(whole_Cmp.calls k t442 _ _ t443 aH _ _ aI aj _ ?side1 ?side2 ?side3 ?side4 A7.out).mono ?_
    (case side1=>repeat (first|exact(Kd.R_reads' af.out).2.2|(with_reducible refine Kd.C_alloc ?_ _)|(with_reducible refine Kd.C_drewN ?_ _)|(with_reducible refine Kd.C_drew ?_)))
    (case side2=>exact(Kd.R_reads' af.out).2.1)
    (case side3=>repeat (first|exact(Kd.R_reads' aA.out).2.2|(with_reducible refine Kd.C_alloc ?_ _)|(with_reducible refine Kd.C_drewN ?_ _)|(with_reducible refine Kd.C_drew ?_)))
    (case side4=>exact(Kd.R_reads' aA.out).2.1)
    rintro e w30 ⟨rfl,hb⟩
    refine⟨_,rfl,?_⟩
    replace ac:=kvb ac hb;replace ad:=kvb ad hb;replace HO441:=krb HO441 hb;replace af:=krb af hb;replace aA:=krb aA hb;replace aa:=kbb aa hb;replace BK437:=kbb BK437 hb;replace HB:=kbs HB hb
    (try clear hb);(try clear hb2);(try clear hk);(try clear hi)
    refine hK.out _ _ ⟨(blk_cell BK437.out 0).trans rfl,(blk_cell BK437.out 1).trans rfl,(blk_cell BK437.out 2).trans rfl,(blk_cell BK437.out 3).trans rfl⟩ (fun hHeld=>?_)
    clear hK K
    refine norm_ (a':=?_) ?_ ?_
    rotate_left
    ·show Act.put _ (some 31) _=_
     simp only[Act.put,kss,i64_w,i32_w]
     rfl
    refine pu_ 5 32 ?_ (bm_ 6 63) rfl rfl X0 (fun _ _ _ h=>h) F1 ?_ ?_ ?_ ?_
    rotate_left
    ·intro w'
     go_simp
     with_reducible rfl
    rotate_left
    ·simp only[Act.put,kss,i64_w,i32_w]
     rfl
    refine done_ X0 ?_
    have bM:w30.cell? ⟨gb437,0,none⟩=some (.bool t438):=(blk_cell BK437.out 0).trans rfl
    have bN:w30.cell? ⟨gb437,1,none⟩=some (.slice Ao24 t439.length co24):=(blk_cell BK437.out 1).trans rfl
    have bO:w30.cell? ⟨gb437,2,none⟩=some (.bool t442):=(blk_cell BK437.out 2).trans rfl
    have bP:w30.cell? ⟨gb437,3,none⟩=some (.slice Ao25 t443.length co25):=(blk_cell BK437.out 3).trans rfl
    have bQ:=blk_frozen BK437.out 0
    have bR:=blk_frozen BK437.out 1
    have bS:=blk_frozen BK437.out 2
    have bT:=blk_frozen BK437.out 3
    try go_wp2_with (first|((with_reducible refine gate_callee (f:=31) rfl ?_);refine kgl (some 37) rfl rfl Tryz.func31 #[.agg #[.bool t442,.slice Ao25 t443.length co25]] rfl ?_;(with_reducible refine(whole_Print.calls k t442 _ _ t443 ay aW _ ?side1 ?side2 A9.out).mono ?_);(case side1=>repeat (first|exact(Kd.R_reads' af.out).2.2|(with_reducible refine Kd.C_alloc ?_ _)|(with_reducible refine Kd.C_drewN ?_ _)|(with_reducible refine Kd.C_drew ?_)));(case side2=>exact(Kd.R_reads' af.out).2.1);rintro e w32 ⟨rfl,hb⟩;refine⟨_,rfl,?_⟩;replace ac:=kvb ac hb;replace ad:=kvb ad hb;replace HO441:=krb HO441 hb;replace af:=krb af hb;replace aA:=krb aA hb;replace aa:=kbb aa hb;replace BK437:=kbb BK437 hb;replace HB:=kbs HB hb;(try clear hb);(try clear hb2);(try clear hk);(try clear hi)))
    go_ret2
    exact⟨B0,by repeat (first|(with_reducible first|exact HB.out|apply below_alloc|apply pw_below_drewN|apply below_drew1|refine below_set ?_ aJ.out|refine below_set ?_ aK.out)|exact HB.out)⟩
   rw[if_neg c11]at H
   exact absurd H Z1
  rw[if_neg c10]at H
  exact absurd H Z1
 rw[if_neg c3]at H
 exact absurd H Z1
def ratio_fraction_out.f (k:Nat) (a0_0:Bool) (l0_1:List Int) (a0_2:Bool) (l0_3:List Int):Option (Bool×List Int×List Int×Int):=(ratio_fraction_low.f k a0_0 l0_1 a0_2 l0_3).bind fun bt457=>((ratio_number_long.f k bt457.1 bt457.2.1).bind fun t465=>(if t465=true then(some (false,([]:List Int),([]:List Int),5)) else((ratio_number_long.f k bt457.2.2.1 bt457.2.2.2).bind fun t466=>(if t466=true then(some (false,([]:List Int),([]:List Int),5)) else(some (bt457.1,bt457.2.1,bt457.2.2.2,0))))))
theorem ratio_fraction_out.calls (k:Nat) (ac:Bool) (ae:Option Addr) (af:Nat) (aa:List Int) (ad:Bool) (ag:Option Addr) (ah:Nat) (ab:List Int) (r1:Bool) (r2:List Int) (r3:List Int) (r4:Int) (w:World) (ak:Kd.C (Kd.int .u64) w ae aa.length aa) (al:aa.length≤af) (am:Kd.C (Kd.int .u64) w ag ab.length ab) (an:ab.length≤ah) (h:ratio_fraction_out.f k ac aa ad ab=some (r1,r2,r3,r4)) :
  Calls Tryz.prog 53 #[.agg #[.bool ac,.slice ae aa.length af,.bool ad,.slice ag ab.length ah]] w fun e w'=>∃v1_ v2_:Value,e=.returned (.tuple #[.agg #[.bool r1,v1_,v2_],.int .i64 r4])∧Kd.R (Kd.int .u64) 91 w' w.heap.size (fun k_=>some k_≠(v2_:Value).ownBlock) v1_ r2∧Kd.R (Kd.int .u64) 91 w' w.heap.size (fun k_=>some k_≠(v1_:Value).ownBlock) v2_ r3∧Below w.heap.size w w':=by
 have ao:=Tryz.underlying25
 have ap:=Tryz.underlying27
 have aq:=Tryz.underlying65
 have ar:=Tryz.underlying67
 have K:=Kp.refl w
 replace K:=K.parV (Kd.V_mono (ok':=fun _=>True) (Kd.V_mk (e:=91) (base:=0) al (Kd.C_F (Kd.heap_int .u64) ak)) (fun _ h=>trivial))
 clear ak al
 replace K:=K.parV (Kd.V_mono (ok':=fun _=>True) (Kd.V_mk (e:=91) (base:=0) an (Kd.C_F (Kd.heap_int .u64) am)) (fun _ h=>trivial))
 clear am an
 try simp only[klv]at K
 rw[ratio_fraction_out.f]at h
 replace h:=bindA h
 obtain⟨⟨z5,x6,z7,x8⟩,A9,h⟩:=h
 dsimp only at h
 replace h:=bindA h
 obtain⟨z23,A24,h⟩:=h
 by_cases c_0:z23=true
 ·subst c_0
  rw[if_pos rfl]at h
  simp only[Option.some.injEq,Prod.mk.injEq]at h
  obtain⟨rfl,rfl,rfl,rfl⟩:=h
  go_enter Tryz.func53,Tryz.ntmps53
  go_wp2_with (first|(refine gd 1 rfl ?_;refine kbk 1 #[.bool ac,.slice ae aa.length af,.bool ad,.slice ag ab.length ah] 67 K.u ?_;clear K;intro g1 W2 K)|(refine gd 2 rfl ?_;refine kbk 2 #[.bool false,.slice none 0 0,.slice none 0 0] 27 K.u ?_;clear K;intro g3 W4 K;have ua0:=K.cell 0 rfl 0 rfl;have ub0:=K.cell 0 rfl 1 rfl;have uc0:=K.cell 0 rfl 2 rfl;have ud0:=K.cell 0 rfl 3 rfl)|(refine gd 5 rfl ?_;clear ua0 ub0 uc0 ud0;refine kgl (some 5) rfl rfl Tryz.func43 #[.agg #[.bool ac,.slice ae aa.length af,.bool ad,.slice ag ab.length ah]] rfl ?_;refine(ratio_fraction_low.calls _ ac _ _ _ aa ad _ _ _ ab z5 x6 z7 x8 _ (K.V 0 rfl) (K.V 1 rfl) A9.out).mono ?_;rintro e W14 ⟨v10,v11,rfl,ai,aj,hb⟩;refine⟨_,rfl,?_⟩;replace K:=K.u.addR2 hb (Kd.R_mono ai fun _ h=>h.2) (Kd.R_mono aj fun _ h=>h.2);clear hb ai aj;obtain⟨P15,c16,e17⟩:=K.slice 2 rfl;subst e17;obtain⟨P18,c19,e20⟩:=K.slice 3 rfl;subst e20)|(refine gs 67 1 5 rfl ?_;refine kstN 0 0 [.bool z5,.slice P15 x6.length c16,.bool z7,.slice P18 x8.length c19] K.u rfl ?q22 ?_;(case q22=>intro hc hf;have c0:=hc 0 _ rfl;have f0:=hf 0;have c1:=hc 1 _ rfl;have f1:=hf 1;have c2:=hc 2 _ rfl;have f2:=hf 2;have c3:=hc 3 _ rfl;have f3:=hf 3;clear hc hf;first|(go_simp;done)|(go_simp;rfl));clear K;intro W21 K;simp only[kls,klv,kpl,kss]at K;have ua0:=K.cell 0 rfl 0 rfl;have ub0:=K.cell 0 rfl 1 rfl;have uc0:=K.cell 0 rfl 2 rfl;have ud0:=K.cell 0 rfl 3 rfl)|(refine gd 8 rfl ?_;clear ua0 ub0 uc0 ud0;refine kgl (some 8) rfl rfl Tryz.func51 #[.agg #[.bool z5,.slice P15 x6.length c16]] rfl ?_;refine(ratio_number_long.calls _ z5 _ _ x6 true _ (K.C 2 rfl) (K.le 2 rfl) A24.out).mono ?_;rintro e W25 ⟨rfl,hb⟩;refine⟨_,rfl,?_⟩;replace K:=K.u.up hb;clear hb)|(refine gs 27 2 14 rfl ?_;refine kstN 1 0 [.bool false,.slice none 0 0,.slice none 0 0] K.u rfl ?q27 ?_;(case q27=>intro hc hf;have c0:=hc 0 _ rfl;have f0:=hf 0;have c1:=hc 1 _ rfl;have f1:=hf 1;have c2:=hc 2 _ rfl;have f2:=hf 2;clear hc hf;first|(go_simp;done)|(go_simp;rfl));clear K;intro W26 K;simp only[kls,klv,kpl,kss]at K))
  refine bodyPost_ret (results_list (rs:=[.cell 2 27,.tmp 3]) rfl Z1 (.cell g3 27 #[.bool false,.slice none 0 0,.slice none 0 0] (0,0) _ rfl (K.u.heap 1 rfl) Tryz.underlying27 rfl X0 (.tmp .nil))) rfl ?_
  exact⟨_,_,rfl,Kd.R_nil _ _ _ _ _,Kd.R_nil _ _ _ _ _,K.u.below⟩
 replace c_0:=Bool.eq_false_iff.mpr c_0
 subst c_0
 rw[if_neg J0]at h
 replace h:=bindA h
 obtain⟨z26,A27,h⟩:=h
 by_cases c_1:z26=true
 ·subst c_1
  rw[if_pos rfl]at h
  simp only[Option.some.injEq,Prod.mk.injEq]at h
  obtain⟨rfl,rfl,rfl,rfl⟩:=h
  go_enter Tryz.func53,Tryz.ntmps53
  go_wp2_with (first|(refine gd 1 rfl ?_;refine kbk 1 #[.bool ac,.slice ae aa.length af,.bool ad,.slice ag ab.length ah] 67 K.u ?_;clear K;intro g1 W2 K)|(refine gd 2 rfl ?_;refine kbk 2 #[.bool false,.slice none 0 0,.slice none 0 0] 27 K.u ?_;clear K;intro g3 W4 K;have ua0:=K.cell 0 rfl 0 rfl;have ub0:=K.cell 0 rfl 1 rfl;have uc0:=K.cell 0 rfl 2 rfl;have ud0:=K.cell 0 rfl 3 rfl)|(refine gd 5 rfl ?_;clear ua0 ub0 uc0 ud0;refine kgl (some 5) rfl rfl Tryz.func43 #[.agg #[.bool ac,.slice ae aa.length af,.bool ad,.slice ag ab.length ah]] rfl ?_;refine(ratio_fraction_low.calls _ ac _ _ _ aa ad _ _ _ ab z5 x6 z7 x8 _ (K.V 0 rfl) (K.V 1 rfl) A9.out).mono ?_;rintro e W14 ⟨v10,v11,rfl,ai,aj,hb⟩;refine⟨_,rfl,?_⟩;replace K:=K.u.addR2 hb (Kd.R_mono ai fun _ h=>h.2) (Kd.R_mono aj fun _ h=>h.2);clear hb ai aj;obtain⟨P15,c16,e17⟩:=K.slice 2 rfl;subst e17;obtain⟨P18,c19,e20⟩:=K.slice 3 rfl;subst e20)|(refine gs 67 1 5 rfl ?_;refine kstN 0 0 [.bool z5,.slice P15 x6.length c16,.bool z7,.slice P18 x8.length c19] K.u rfl ?q22 ?_;(case q22=>intro hc hf;have c0:=hc 0 _ rfl;have f0:=hf 0;have c1:=hc 1 _ rfl;have f1:=hf 1;have c2:=hc 2 _ rfl;have f2:=hf 2;have c3:=hc 3 _ rfl;have f3:=hf 3;clear hc hf;first|(go_simp;done)|(go_simp;rfl));clear K;intro W21 K;simp only[kls,klv,kpl,kss]at K;have ua0:=K.cell 0 rfl 0 rfl;have ub0:=K.cell 0 rfl 1 rfl;have uc0:=K.cell 0 rfl 2 rfl;have ud0:=K.cell 0 rfl 3 rfl)|(refine gd 8 rfl ?_;clear ua0 ub0 uc0 ud0;refine kgl (some 8) rfl rfl Tryz.func51 #[.agg #[.bool z5,.slice P15 x6.length c16]] rfl ?_;refine(ratio_number_long.calls _ z5 _ _ x6 false _ (K.C 2 rfl) (K.le 2 rfl) A24.out).mono ?_;rintro e W25 ⟨rfl,hb⟩;refine⟨_,rfl,?_⟩;replace K:=K.u.up hb;clear hb;have ua0:=K.cell 0 rfl 0 rfl;have ub0:=K.cell 0 rfl 1 rfl;have uc0:=K.cell 0 rfl 2 rfl;have ud0:=K.cell 0 rfl 3 rfl)|(refine gd 12 rfl ?_;clear ua0 ub0 uc0 ud0;refine gate_guard F1 ?_;refine kgl (some 12) rfl rfl Tryz.func51 #[.agg #[.bool z7,.slice P18 x8.length c19]] rfl ?_;refine(ratio_number_long.calls _ z7 _ _ x8 true _ (K.C 3 rfl) (K.le 3 rfl) A27.out).mono ?_;rintro e W28 ⟨rfl,hb⟩;refine⟨_,rfl,?_⟩;replace K:=K.u.up hb;clear hb)|(refine gs 27 2 14 rfl ?_;refine kstN 1 0 [.bool false,.slice none 0 0,.slice none 0 0] K.u rfl ?q30 ?_;(case q30=>intro hc hf;have c0:=hc 0 _ rfl;have f0:=hf 0;have c1:=hc 1 _ rfl;have f1:=hf 1;have c2:=hc 2 _ rfl;have f2:=hf 2;clear hc hf;first|(go_simp;done)|(go_simp;rfl));clear K;intro W29 K;simp only[kls,klv,kpl,kss]at K))
  refine bodyPost_ret (results_list (rs:=[.cell 2 27,.tmp 3]) rfl Z1 (.cell g3 27 #[.bool false,.slice none 0 0,.slice none 0 0] (0,0) _ rfl (K.u.heap 1 rfl) Tryz.underlying27 rfl X0 (.tmp .nil))) rfl ?_
  exact⟨_,_,rfl,Kd.R_nil _ _ _ _ _,Kd.R_nil _ _ _ _ _,K.u.below⟩
 replace c_1:=Bool.eq_false_iff.mpr c_1
 subst c_1
 rw[if_neg J0]at h
 simp only[Option.some.injEq,Prod.mk.injEq]at h
 obtain⟨rfl,rfl,rfl,rfl⟩:=h
 go_enter Tryz.func53,Tryz.ntmps53
 go_wp2_with (first|(refine gd 1 rfl ?_;refine kbk 1 #[.bool ac,.slice ae aa.length af,.bool ad,.slice ag ab.length ah] 67 K.u ?_;clear K;intro g1 W2 K)|(refine gd 2 rfl ?_;refine kbk 2 #[.bool false,.slice none 0 0,.slice none 0 0] 27 K.u ?_;clear K;intro g3 W4 K;have ua0:=K.cell 0 rfl 0 rfl;have ub0:=K.cell 0 rfl 1 rfl;have uc0:=K.cell 0 rfl 2 rfl;have ud0:=K.cell 0 rfl 3 rfl)|(refine gd 5 rfl ?_;clear ua0 ub0 uc0 ud0;refine kgl (some 5) rfl rfl Tryz.func43 #[.agg #[.bool ac,.slice ae aa.length af,.bool ad,.slice ag ab.length ah]] rfl ?_;refine(ratio_fraction_low.calls _ ac _ _ _ aa ad _ _ _ ab z5 x6 z7 x8 _ (K.V 0 rfl) (K.V 1 rfl) A9.out).mono ?_;rintro e W14 ⟨v10,v11,rfl,ai,aj,hb⟩;refine⟨_,rfl,?_⟩;replace K:=K.u.addR2 hb (Kd.R_mono ai fun _ h=>h.2) (Kd.R_mono aj fun _ h=>h.2);clear hb ai aj;obtain⟨P15,c16,e17⟩:=K.slice 2 rfl;subst e17;obtain⟨P18,c19,e20⟩:=K.slice 3 rfl;subst e20)|(refine gs 67 1 5 rfl ?_;refine kstN 0 0 [.bool z5,.slice P15 x6.length c16,.bool z7,.slice P18 x8.length c19] K.u rfl ?q22 ?_;(case q22=>intro hc hf;have c0:=hc 0 _ rfl;have f0:=hf 0;have c1:=hc 1 _ rfl;have f1:=hf 1;have c2:=hc 2 _ rfl;have f2:=hf 2;have c3:=hc 3 _ rfl;have f3:=hf 3;clear hc hf;first|(go_simp;done)|(go_simp;rfl));clear K;intro W21 K;simp only[kls,klv,kpl,kss]at K;have ua0:=K.cell 0 rfl 0 rfl;have ub0:=K.cell 0 rfl 1 rfl;have uc0:=K.cell 0 rfl 2 rfl;have ud0:=K.cell 0 rfl 3 rfl)|(refine gd 8 rfl ?_;clear ua0 ub0 uc0 ud0;refine kgl (some 8) rfl rfl Tryz.func51 #[.agg #[.bool z5,.slice P15 x6.length c16]] rfl ?_;refine(ratio_number_long.calls _ z5 _ _ x6 false _ (K.C 2 rfl) (K.le 2 rfl) A24.out).mono ?_;rintro e W25 ⟨rfl,hb⟩;refine⟨_,rfl,?_⟩;replace K:=K.u.up hb;clear hb;have ua0:=K.cell 0 rfl 0 rfl;have ub0:=K.cell 0 rfl 1 rfl;have uc0:=K.cell 0 rfl 2 rfl;have ud0:=K.cell 0 rfl 3 rfl)|(refine gd 12 rfl ?_;clear ua0 ub0 uc0 ud0;refine gate_guard F1 ?_;refine kgl (some 12) rfl rfl Tryz.func51 #[.agg #[.bool z7,.slice P18 x8.length c19]] rfl ?_;refine(ratio_number_long.calls _ z7 _ _ x8 false _ (K.C 3 rfl) (K.le 3 rfl) A27.out).mono ?_;rintro e W28 ⟨rfl,hb⟩;refine⟨_,rfl,?_⟩;replace K:=K.u.up hb;clear hb;have ua0:=K.cell 0 rfl 0 rfl;have ub0:=K.cell 0 rfl 1 rfl;have uc0:=K.cell 0 rfl 2 rfl;have ud0:=K.cell 0 rfl 3 rfl)|(refine gs 27 2 22 rfl ?_;clear ua0 ub0 uc0 ud0;refine kstN 1 0 [.bool z5,.slice P15 x6.length c16,.slice P18 x8.length c19] K.u rfl ?q30 ?_;(case q30=>intro hc hf;have c0:=hc 0 _ rfl;have f0:=hf 0;have c1:=hc 1 _ rfl;have f1:=hf 1;have c2:=hc 2 _ rfl;have f2:=hf 2;clear hc hf;first|(go_simp;done)|(go_simp;rfl));clear K;intro W29 K;simp only[kls,klv,kpl,kss]at K))
 refine bodyPost_ret (results_list (rs:=[.cell 2 27,.tmp 3]) rfl Z1 (.cell g3 27 #[.bool z5,.slice P15 x6.length c16,.slice P18 x8.length c19] (0,0) _ rfl (K.u.heap 1 rfl) Tryz.underlying27 rfl X0 (.tmp .nil))) rfl ?_
 exact⟨_,_,rfl,K.u.Rne 0 rfl rfl fun k_ h_=>K.apart 0 1 rfl rfl J0 k_ h_,K.u.Rne 1 rfl rfl fun k_ h_=>K.apart 1 0 rfl rfl J0 k_ h_,K.u.below⟩
end Go.Proofs.YtncomlmhagaajaaGreatDoor.PRp
