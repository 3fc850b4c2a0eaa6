/- Part 3 of what the card rests on. -/
import Derived.Shelf.SlicesQ.IndexFunc
import Derived.Laws.EntriesVeiled
import Derived.Test.YtncomlmhagaajaaGreatCm2
set_option maxHeartbeats 8000000
set_option maxRecDepth 100000
set_option linter.unusedVariables false
set_option linter.unusedSimpArgs false
namespace Go.Proofs.YtncomlmhagaajaaGreat.PBo
open Go.RowKit Go.Proofs.YtncomlmhagaajaaGreatW.PrintWords Go.Proofs.YtncomlmhagaajaaGreatW.PrintLast Go.Proofs.YtncomlmhagaajaaGreatW.PrintMore
open Go.Proofs.YtncomlmhagaajaaGreat.Mine
attribute [local go_sem] max2_int min2_int max_two min_two max_three min_three max_four min_four
def bits_low.f (k:Nat) (a0:Int) (a1_0:Bool) (l1_1:List Int):Option (Int×List Int):=(api_Nat_uint64.f l1_1).bind fun t823=>(if(t823.length:Int)>(wrap64 (Int.tdiv (wrap64 (a0+63)) 64)) then(if 0≤(wrap64 (Int.tdiv (wrap64 (a0+63)) 64)) then(if(wrap64 (Int.tdiv (wrap64 (a0+63)) 64))≤(t823.length:Int) then((bits_of.f k a0 a1_0 (t823.take ((wrap64 (Int.tdiv (wrap64 (a0+63)) 64)):Int).toNat)).bind fun bt829=>(some (bt829.1,bt829.2))) else(none)) else(none)) else((bits_of.f k a0 a1_0 t823).bind fun bt833=>(some (bt833.1,bt833.2))))
theorem bits_low.mono:∀a0 a1 a2 k,LeO (bits_low.f k a0 a1 a2) (bits_low.f (k+1) a0 a1 a2):=by
 intro a0 a1 a2 k
 unfold bits_low.f
 repeat' first
   | (with_reducible exact bits_of.mono _ _ _ _)
   | (with_reducible exact LeO.refl _)
   | (with_reducible exact LeO.none _)
   | (with_reducible refine LeO.ite ?_ ?_)
   | (with_reducible refine LeO.bind ?_ (fun _=>?_))
   | exact bits_of.mono _ _ _ _
   | exact LeO.none _
   | refine LeO.ite ?_ ?_
   | refine LeO.bind ?_ (fun _=>?_)
theorem bits_low.calls (k:Nat) (a0:Int) (ad:Bool) (aj:Option Addr) (ak:Nat) (ae:List Int) (r1:Int) (r2:List Int) (w:World) (aA:Kd.C (Kd.int .u64) w aj ae.length ae) (aB:ae.length≤ak) (h:bits_low.f k a0 ad ae=some (r1,r2)) :
  Calls Tryz.prog 48 #[.int .i64 a0,.agg #[.bool ad,.slice aj ae.length ak]] w fun e w'=>∃v1_:Value,e=.returned (.agg #[.int .i64 r1,v1_])∧Kd.R (Kd.int .u64) 48 w' w.heap.size (fun _=>True) v1_ r2∧Below w.heap.size w w':=by
 have bK:=Tryz.underlying43
 have bL:=Tryz.underlying28
 have aC:=Aside0.mk aA
 have aD:=Aside0.mk aB
 clear aA aB
 have HB:=Aside0.mk (Below.refl w.heap.size w)
 have H:((api_Nat_uint64.f ae).bind fun ac=>(if(ac.length:Int)>(wrap64 (Int.tdiv (wrap64 (a0+63)) 64)) then(if 0≤(wrap64 (Int.tdiv (wrap64 (a0+63)) 64)) then(if(wrap64 (Int.tdiv (wrap64 (a0+63)) 64))≤(ac.length:Int) then((bits_of.f k a0 ad (ac.take ((wrap64 (Int.tdiv (wrap64 (a0+63)) 64)):Int).toNat)).bind fun af=>(some (af.1,af.2))) else(none)) else(none)) else((bits_of.f k a0 ad ac).bind fun an=>(some (an.1,an.2)))))=some (r1,r2):=h
 clear h
 replace H:=Option.bind_eq_some_iff.mp H
 obtain⟨ac,A30,H⟩:=H
 replace H:(if(ac.length:Int)>(wrap64 (Int.tdiv (wrap64 (a0+63)) 64)) then(if 0≤(wrap64 (Int.tdiv (wrap64 (a0+63)) 64)) then(if(wrap64 (Int.tdiv (wrap64 (a0+63)) 64))≤(ac.length:Int) then((bits_of.f k a0 ad (ac.take ((wrap64 (Int.tdiv (wrap64 (a0+63)) 64)):Int).toNat)).bind fun af=>(some (af.1,af.2))) else(none)) else(none)) else((bits_of.f k a0 ad ac).bind fun an=>(some (an.1,an.2))))=some (r1,r2):=H
 have A3:=Aside0.mk A30
 clear A30
 by_cases c4:(ac.length:Int)>(wrap64 (Int.tdiv (wrap64 (a0+63)) 64))
 ·rw[if_pos c4]at H
  have aI:decide ((wrap64 (Int.tdiv (wrap64 (a0+63)) 64))<(ac.length:Int))=true:=decide_eq_true c4
  clear c4
  obtain⟨ji5,hji5⟩:∃j_:Int,(wrap64 (Int.tdiv (wrap64 (a0+63)) 64))=j_:=⟨_,rfl⟩
  replace H:(if 0≤(ji5) then(if(ji5)≤(ac.length:Int) then((bits_of.f k a0 ad (ac.take ((ji5):Int).toNat)).bind fun af=>(some (af.1,af.2))) else(none)) else(none))=some (r1,r2):=by first|(rw[hji5]at H;exact H)|(simp only[hji5]at H ⊢;exact H)
  (try rw[hji5]at aI)
  (try rw[hji5]at A3)
  have bF:(IntKind.i64.wrap (Int.tdiv (wrap64 (a0+63)) 64))=ji5:=(i64_w _).trans hji5
  by_cases c6:0≤(ji5)
  ·rw[if_pos c6]at H
   have bM:=eq_true c6
   have bN:decide (0≤(ji5))=true:=decide_eq_true c6
   clear c6
   by_cases c7:(ji5)≤(ac.length:Int)
   ·rw[if_pos c7]at H
    have bO:=eq_true c7
    have bP:decide ((ji5)≤(ac.length:Int))=true:=decide_eq_true c7
    clear c7
    obtain⟨au,ao⟩:∃y_:List Int,y_=(ac.take ((ji5):Int).toNat):=⟨_,rfl⟩
    replace H:((bits_of.f k a0 ad au).bind fun af=>(some (af.1,af.2)))=some (r1,r2):=by first|(rw[ao];with_reducible exact H)|(have H2_:=(Option.bind_some _ _).symm.trans H;rw[ao];with_reducible exact H2_)|(have H2_:=(Option.bind_some _ _).symm.trans H;with_reducible exact H2_)|with_reducible exact H|(rw[ao];exact H)|exact H
    have aE:=Aside0.mk ao
    clear ao
    replace H:=Option.bind_eq_some_iff.mp H
    obtain⟨⟨aq,av⟩,A80,H⟩:=H
    replace H:(some (aq,av))=some (r1,r2):=H
    have A8:=Aside0.mk A80
    clear A80
    simp only[Option.some.injEq,Prod.mk.injEq]at H
    obtain⟨rfl,rfl⟩:=H
    go_enter Tryz.func48,Tryz.ntmps48
    go_wp2_with (first|(refine gd 3 rfl ?_;refine kbe 3 #[.bool ad,.slice aj ae.length ak] 43 ?_;intro ai hg w9 hbox hb;have aa:=Aside0.mk (hbox);have aS:=kbz hg HB;have aw:=kbz hg HB;replace HB:=kbs HB hb;clear hb hbox hg)|(refine gd 4 rfl ?_;refine kbe 4 #[.int .i64 0,.slice none 0 0] 28 ?_;intro ag hg w10 hbox hb;have ab:=Aside0.mk (hbox);have aT:=kbz hg HB;have ax:=kbz hg HB;replace HB:=kbs HB hb;have al:=knl hg aa;have am:=kng hg aa;replace aa:=kbb aa hb;clear hb hbox hg;have bG:=al.out;have bH:=am.out;have bd:w10.cell? ⟨ai,0,none⟩=some (.bool ad):=(blk_cell aa.out 0).trans rfl;have be:w10.cell? ⟨ai,1,none⟩=some (.slice aj ae.length ak):=(blk_cell aa.out 1).trans rfl;have bf:=blk_frozen aa.out 0;have bg:=blk_frozen aa.out 1)|((with_reducible refine gate_callee (f:=91) rfl ?_);refine kgl (some 12) rfl rfl Tryz.func91 #[.slice aj ae.length ak] rfl ?_;(with_reducible refine(api_Nat_uint64.calls _ _ ae ac _ ?side1 ?side2 A3.out).mono ?_);(case side1=>repeat (first|exact(Kd.C_below aC.out HB.out)|(with_reducible refine Kd.C_alloc ?_ _)|(with_reducible refine Kd.C_drewN ?_ _)|(with_reducible refine Kd.C_drew ?_)));(case side2=>exact aD.out);rintro e w13 ⟨aV,rfl,ho0,hb⟩;refine⟨_,rfl,?_⟩;have ah:=Aside0.mk (Kd.R_lower ho0 (below_size (khu HB.out)));replace aa:=kbb aa hb;replace ab:=kbb ab hb;replace HB:=kbs HB hb;(try clear hb);(try clear hb2);(try clear hk);(try clear hi);(try clear ho0);obtain⟨aJ,aK,aW⟩:=Kd.R_slice ah.out;subst aW;have q15:((ji5):Int)≤((ac.length:Int):Int):=of_decide_eq_true ‹_›;obtain⟨i015,aF,_,aU,_⟩:=info_parts info48;have aL:=cut_to (P:=Tryz.prog) 26 48 .i64 Tryz.underlying26 aF aJ ac.length aK (ji5) (of_decide_eq_true ‹_›) q15 (Kd.R_reads' ah.out).2.1;have ay:=Kd.R_take (m:=((ji5):Int).toNat) ah.out Z0;have aM:au.length=((ji5):Int).toNat:=(by rw[aE.out,List.length_take];omega);rw[←aE.out]at ay;rw[←aM]at ay aL;clear aM aF aU ah;have ap:=Aside0.mk ay;clear ay;replace q15:=eq_true q15;have bh:w13.cell? ⟨ai,0,none⟩=some (.bool ad):=(blk_cell aa.out 0).trans rfl;have bi:w13.cell? ⟨ai,1,none⟩=some (.slice aj ae.length ak):=(blk_cell aa.out 1).trans rfl;have bj:=blk_frozen aa.out 0;have bk:=blk_frozen aa.out 1)|((with_reducible refine gate_callee (f:=34) rfl ?_);refine kgl (some 25) rfl rfl Tryz.func34 #[.int .i64 a0,.agg #[.bool ad,.slice aJ au.length aK]] rfl ?_;(with_reducible refine(bits_of.calls k a0 ad _ _ au aq av _ ?side1 ?side2 A8.out).mono ?_);(case side1=>repeat (first|exact(Kd.R_reads' ap.out).2.2|(with_reducible refine Kd.C_alloc ?_ _)|(with_reducible refine Kd.C_drewN ?_ _)|(with_reducible refine Kd.C_drew ?_)));(case side2=>exact(Kd.R_reads' ap.out).2.1);rintro e w17 ⟨bQ,rfl,ho0,hb⟩;refine⟨_,rfl,?_⟩;have aG:=Aside0.mk (Kd.R_lower (Kd.R_new' ho0 (Kd.R_lt (kru ap.out))) (below_size (khu HB.out)));replace ap:=Aside0.mk (Kd.R_elder' (kru ap.out) (Kd.R_base ho0) hb);replace aa:=kbb aa hb;replace ab:=kbb ab hb;replace HB:=kbs HB hb;(try clear hb);(try clear hb2);(try clear hk);(try clear hi);(try clear ho0);have bl:w17.cell? ⟨ag,0,none⟩=some (.int .i64 0):=(blk_cell ab.out 0).trans rfl;have bn:w17.cell? ⟨ag,1,none⟩=some (.slice none 0 0):=(blk_cell ab.out 1).trans rfl;have bo:=blk_frozen ab.out 0;have bp:=blk_frozen ab.out 1;obtain⟨aN,aO,aX⟩:=Kd.R_slice aG.out;subst aX))
    refine bodyPost_ret (results_cell_row rfl _ _ ag 28 #[.int .i64 aq,.slice aN av.length aO] (0,0) _ rfl (kpu #[.int .i64 aq,.slice none 0 0] 1 (kpu #[.int .i64 0,.slice none 0 0] 0 (kbu ab.out))) Tryz.underlying28 rfl Y0) rfl ?_
    exact⟨_,J5,by(with_reducible repeat (first|apply Kd.R_alloc|apply Kd.R_drewN|apply Kd.R_drew));exact Kd.R_mono (Kd.R_far (p:=⟨ag,1,none⟩) (Kd.R_far (p:=⟨ag,0,none⟩) (Kd.R_types aG.out ab.out X0) (fun _ hk=>hk.2) (.int .i64 aq)) (fun _ hk=>hk.2) (.slice aN av.length aO)) (fun _ hk=>trivial),by repeat (first|(with_reducible first|exact HB.out|apply below_alloc|apply pw_below_drewN|apply below_drew1|refine below_set ?_ aw.out|refine below_set ?_ ax.out)|exact HB.out)⟩
   rw[if_neg c7]at H
   exact absurd H Z1
  rw[if_neg c6]at H
  exact absurd H Z1
 rw[if_neg c4]at H
 have aI:decide ((wrap64 (Int.tdiv (wrap64 (a0+63)) 64))<(ac.length:Int))=false:=decide_eq_false c4
 clear c4
 replace H:=Option.bind_eq_some_iff.mp H
 obtain⟨⟨ar,az⟩,aP,H⟩:=H
 replace H:(some (ar,az))=some (r1,r2):=H
 have A20:=Aside0.mk aP
 clear aP
 simp only[Option.some.injEq,Prod.mk.injEq]at H
 obtain⟨rfl,rfl⟩:=H
 go_enter Tryz.func48,Tryz.ntmps48
 go_wp2_with (first|(refine gd 3 rfl ?_;refine kbe 3 #[.bool ad,.slice aj ae.length ak] 43 ?_;intro ai hg w21 hbox hb;have aa:=Aside0.mk (hbox);have aS:=kbz hg HB;have aw:=kbz hg HB;replace HB:=kbs HB hb;clear hb hbox hg)|(refine gd 4 rfl ?_;refine kbe 4 #[.int .i64 0,.slice none 0 0] 28 ?_;intro ag hg w22 hbox hb;have ab:=Aside0.mk (hbox);have aT:=kbz hg HB;have ax:=kbz hg HB;replace HB:=kbs HB hb;have al:=knl hg aa;have am:=kng hg aa;replace aa:=kbb aa hb;clear hb hbox hg;have bI:=al.out;have bJ:=am.out;have bq:w22.cell? ⟨ai,0,none⟩=some (.bool ad):=(blk_cell aa.out 0).trans rfl;have br:w22.cell? ⟨ai,1,none⟩=some (.slice aj ae.length ak):=(blk_cell aa.out 1).trans rfl;have bu:=blk_frozen aa.out 0;have bv:=blk_frozen aa.out 1)|((with_reducible refine gate_callee (f:=91) rfl ?_);refine kgl (some 12) rfl rfl Tryz.func91 #[.slice aj ae.length ak] rfl ?_;(with_reducible refine(api_Nat_uint64.calls _ _ ae ac _ ?side1 ?side2 A3.out).mono ?_);(case side1=>repeat (first|exact(Kd.C_below aC.out HB.out)|(with_reducible refine Kd.C_alloc ?_ _)|(with_reducible refine Kd.C_drewN ?_ _)|(with_reducible refine Kd.C_drew ?_)));(case side2=>exact aD.out);rintro e w25 ⟨aV,rfl,ho0,hb⟩;refine⟨_,rfl,?_⟩;have ah:=Aside0.mk (Kd.R_lower ho0 (below_size (khu HB.out)));replace aa:=kbb aa hb;replace ab:=kbb ab hb;replace HB:=kbs HB hb;(try clear hb);(try clear hb2);(try clear hk);(try clear hi);(try clear ho0);obtain⟨aY,aZ,bb⟩:=Kd.R_slice ah.out;subst bb;have bw:w25.cell? ⟨ai,0,none⟩=some (.bool ad):=(blk_cell aa.out 0).trans rfl;have bx:w25.cell? ⟨ai,1,none⟩=some (.slice aj ae.length ak):=(blk_cell aa.out 1).trans rfl;have bz:=blk_frozen aa.out 0;have bA:=blk_frozen aa.out 1)|((with_reducible refine gate_callee (f:=34) rfl ?_);refine kgl (some 25) rfl rfl Tryz.func34 #[.int .i64 a0,.agg #[.bool ad,.slice aY ac.length aZ]] rfl ?_;(with_reducible refine(bits_of.calls k a0 ad _ _ ac ar az _ ?side1 ?side2 A20.out).mono ?_);(case side1=>repeat (first|exact(Kd.R_reads' ah.out).2.2|(with_reducible refine Kd.C_alloc ?_ _)|(with_reducible refine Kd.C_drewN ?_ _)|(with_reducible refine Kd.C_drew ?_)));(case side2=>exact(Kd.R_reads' ah.out).2.1);rintro e w28 ⟨bR,rfl,ho0,hb⟩;refine⟨_,rfl,?_⟩;have aH:=Aside0.mk (Kd.R_lower (Kd.R_new' ho0 (Kd.R_lt (kru ah.out))) (below_size (khu HB.out)));replace ah:=Aside0.mk (Kd.R_elder' (kru ah.out) (Kd.R_base ho0) hb);replace aa:=kbb aa hb;replace ab:=kbb ab hb;replace HB:=kbs HB hb;(try clear hb);(try clear hb2);(try clear hk);(try clear hi);(try clear ho0);have bB:w28.cell? ⟨ag,0,none⟩=some (.int .i64 0):=(blk_cell ab.out 0).trans rfl;have bC:w28.cell? ⟨ag,1,none⟩=some (.slice none 0 0):=(blk_cell ab.out 1).trans rfl;have bD:=blk_frozen ab.out 0;have bE:=blk_frozen ab.out 1;obtain⟨aQ,aR,bc⟩:=Kd.R_slice aH.out;subst bc))
 refine bodyPost_ret (results_cell_row rfl _ _ ag 28 #[.int .i64 ar,.slice aQ az.length aR] (0,0) _ rfl (kpu #[.int .i64 ar,.slice none 0 0] 1 (kpu #[.int .i64 0,.slice none 0 0] 0 (kbu ab.out))) Tryz.underlying28 rfl Y0) rfl ?_
 exact⟨_,D0,by(with_reducible repeat (first|apply Kd.R_alloc|apply Kd.R_drewN|apply Kd.R_drew));exact Kd.R_mono (Kd.R_far (p:=⟨ag,1,none⟩) (Kd.R_far (p:=⟨ag,0,none⟩) (Kd.R_types aH.out ab.out X0) (fun _ hk=>hk.2) (.int .i64 ar)) (fun _ hk=>hk.2) (.slice aQ az.length aR)) (fun _ hk=>trivial),by repeat (first|(with_reducible first|exact HB.out|apply below_alloc|apply pw_below_drewN|apply below_drew1|refine below_set ?_ aw.out|refine below_set ?_ ax.out)|exact HB.out)⟩
def bits_From.f (k:Nat) (a0:Int) (a1_0:Bool) (l1_1:List Int):Option (Int×List Int×Int):=if a0<1 then(some (0,([]:List Int),55)) else(if a0>4096 then(some (0,([]:List Int),55)) else((bits_low.f k a0 a1_0 l1_1).bind fun bt839=>(some (bt839.1,bt839.2,0))))
theorem bits_From.mono:∀a0 a1 a2 k,LeO (bits_From.f k a0 a1 a2) (bits_From.f (k+1) a0 a1 a2):=by
 intro a0 a1 a2 k
 unfold bits_From.f
 repeat' first
   | (with_reducible exact bits_low.mono _ _ _ _)
   | (with_reducible exact LeO.refl _)
   | (with_reducible exact LeO.none _)
   | (with_reducible refine LeO.ite ?_ ?_)
   | (with_reducible refine LeO.bind ?_ (fun _=>?_))
   | exact bits_low.mono _ _ _ _
   | exact LeO.none _
   | refine LeO.ite ?_ ?_
   | refine LeO.bind ?_ (fun _=>?_)
theorem bits_From.calls (k:Nat) (a0:Int) (ab:Bool) (ac:Option Addr) (ad:Nat) (aa:List Int) (r1:Int) (r2:List Int) (r3:Int) (w:World) (ae:Kd.C (Kd.int .u64) w ac aa.length aa) (af:aa.length≤ad) (h:bits_From.f k a0 ab aa=some (r1,r2,r3)) :
  Calls Tryz.prog 17 #[.int .i64 a0,.agg #[.bool ab,.slice ac aa.length ad]] w fun e w'=>∃v1_:Value,e=.returned (.tuple #[.agg #[.int .i64 r1,v1_],.int .i64 r3])∧Kd.R (Kd.int .u64) 48 w' w.heap.size (fun _=>True) v1_ r2∧Below w.heap.size w w':=by
 have ai:=Tryz.underlying28
 have aj:=Tryz.underlying43
 have K:=Kp.refl w
 replace K:=K.parV (Kd.V_mono (ok':=fun _=>True) (Kd.V_mk (e:=48) (base:=0) af (Kd.C_F (Kd.heap_int .u64) ae)) (fun _ h=>trivial))
 clear ae af
 try simp only[klv]at K
 rw[bits_From.f]at h
 by_cases c_0:a0<1
 ·rw[if_pos c_0]at h
  have ag:decide (a0<1)=true:=decide_eq_true c_0
  simp only[Option.some.injEq,Prod.mk.injEq]at h
  obtain⟨rfl,rfl,rfl⟩:=h
  go_enter Tryz.func17,Tryz.ntmps17
  go_wp2_with (first|(refine gd 3 rfl ?_;refine kbk 3 #[.bool ab,.slice ac aa.length ad] 43 K.u ?_;clear K;intro g1 W2 K)|(refine gd 4 rfl ?_;refine kbk 4 #[.int .i64 0,.slice none 0 0] 28 K.u ?_;clear K;intro g3 W4 K)|(refine gs 28 4 12 rfl ?_;refine ks2 1 (.int .i64 0) (.slice none 0 0) K.u rfl ?_;clear K;intro W5 K;simp only[kls,klv]at K))
  refine bodyPost_ret (results_list (rs:=[.cell 4 28,.tmp 5]) rfl Z1 (.cell g3 28 #[.int .i64 0,.slice none 0 0] (0,0) _ rfl (K.u.heap 1 rfl) Tryz.underlying28 rfl Y0 (.tmp .nil))) rfl ?_
  exact⟨_,rfl,Kd.R_nil _ _ _ _ _,K.u.below⟩
 rw[if_neg c_0]at h
 have ag:decide (a0<1)=false:=decide_eq_false c_0
 by_cases c_1:a0>4096
 ·rw[if_pos c_1]at h
  have ah:decide (a0>4096)=true:=decide_eq_true c_1
  simp only[Option.some.injEq,Prod.mk.injEq]at h
  obtain⟨rfl,rfl,rfl⟩:=h
  go_enter Tryz.func17,Tryz.ntmps17
  go_wp2_with (first|(refine gd 3 rfl ?_;refine kbk 3 #[.bool ab,.slice ac aa.length ad] 43 K.u ?_;clear K;intro g1 W2 K)|(refine gd 4 rfl ?_;refine kbk 4 #[.int .i64 0,.slice none 0 0] 28 K.u ?_;clear K;intro g3 W4 K)|(refine gs 28 4 12 rfl ?_;refine ks2 1 (.int .i64 0) (.slice none 0 0) K.u rfl ?_;clear K;intro W5 K;simp only[kls,klv]at K))
  refine bodyPost_ret (results_list (rs:=[.cell 4 28,.tmp 5]) rfl Z1 (.cell g3 28 #[.int .i64 0,.slice none 0 0] (0,0) _ rfl (K.u.heap 1 rfl) Tryz.underlying28 rfl Y0 (.tmp .nil))) rfl ?_
  exact⟨_,rfl,Kd.R_nil _ _ _ _ _,K.u.below⟩
 rw[if_neg c_1]at h
 have ah:decide (a0>4096)=false:=decide_eq_false c_1
 replace h:=bindA h
 obtain⟨⟨n5,x6⟩,A7,h⟩:=h
 dsimp only at h
 simp only[Option.some.injEq,Prod.mk.injEq]at h
 obtain⟨rfl,rfl,rfl⟩:=h
 go_enter Tryz.func17,Tryz.ntmps17
 go_wp2_with (first|(refine gd 3 rfl ?_;refine kbk 3 #[.bool ab,.slice ac aa.length ad] 43 K.u ?_;clear K;intro g1 W2 K)|(refine gd 4 rfl ?_;refine kbk 4 #[.int .i64 0,.slice none 0 0] 28 K.u ?_;clear K;intro g3 W4 K;obtain⟨ua0,ub0⟩:=K.cell2 0 rfl)|(refine gd 15 rfl ?_;clear ua0 ub0;refine kgl (some 15) rfl rfl Tryz.func48 #[.int .i64 a0,.agg #[.bool ab,.slice ac aa.length ad]] rfl ?_;refine(bits_low.calls _ a0 ab _ _ aa n5 x6 _ (K.C 0 rfl) (K.le 0 rfl) A7.out).mono ?_;rintro e W10 ⟨v8,rfl,ho9,hb⟩;refine⟨_,rfl,?_⟩;replace K:=K.u.addRE hb ho9;clear hb ho9;obtain⟨P11,c12,e13⟩:=K.slice 1 rfl;subst e13)|(refine gs 28 4 15 rfl ?_;refine ks2 1 (.int .i64 n5) (.slice P11 x6.length c12) K.u rfl ?_;clear K;intro W14 K;simp only[kls,klv]at K))
 refine bodyPost_ret (results_list (rs:=[.cell 4 28,.tmp 5]) rfl Z1 (.cell g3 28 #[.int .i64 n5,.slice P11 x6.length c12] (0,0) _ rfl (K.u.heap 1 rfl) Tryz.underlying28 rfl Y0 (.tmp .nil))) rfl ?_
 exact⟨_,rfl,K.u.R 0 rfl,K.u.below⟩
def bits_Of.f (k:Nat) (a0:Int) (a1:Int):Option (Int×List Int×Int):=(bits_From.f k a0 false (([a1]:List Int))).bind fun bt847=>(some (bt847.1,bt847.2.1,bt847.2.2))
theorem bits_Of.mono:∀a0 a1 k,LeO (bits_Of.f k a0 a1) (bits_Of.f (k+1) a0 a1):=by
 intro a0 a1 k
 unfold bits_Of.f
 repeat' first
   | (with_reducible exact bits_From.mono _ _ _ _)
   | (with_reducible exact LeO.refl _)
   | (with_reducible exact LeO.none _)
   | (with_reducible refine LeO.ite ?_ ?_)
   | (with_reducible refine LeO.bind ?_ (fun _=>?_))
   | exact bits_From.mono _ _ _ _
   | exact LeO.none _
   | refine LeO.ite ?_ ?_
   | refine LeO.bind ?_ (fun _=>?_)
theorem bits_Of.calls (k:Nat) (a0:Int) (a1:Int) (r1:Int) (r2:List Int) (r3:Int) (w:World) (h:bits_Of.f k a0 a1=some (r1,r2,r3)) :
  Calls Tryz.prog 21 #[.int .i64 a0,.int .u64 a1] w fun e w'=>∃v1_:Value,e=.returned (.tuple #[.agg #[.int .i64 r1,v1_],.int .i64 r3])∧Kd.R (Kd.int .u64) 48 w' w.heap.size (fun _=>True) v1_ r2∧Below w.heap.size w w':=by
 have aw:=Tryz.underlying28
 have ax:=Tryz.underlying43
 have HB:=Aside0.mk (Below.refl w.heap.size w)
 have H:((bits_From.f k a0 false (([a1]:List Int))).bind fun ab=>(some (ab.1,ab.2.1,ab.2.2)))=some (r1,r2,r3):=h
 clear h
 obtain⟨ah,ad⟩:∃y_:List Int,y_=(([a1]:List Int)):=⟨_,rfl⟩
 replace H:((bits_From.f k a0 false ah).bind fun ab=>(some (ab.1,ab.2.1,ab.2.2)))=some (r1,r2,r3):=by first|(rw[ad];with_reducible exact H)|(have H2_:=(Option.bind_some _ _).symm.trans H;rw[ad];with_reducible exact H2_)|(have H2_:=(Option.bind_some _ _).symm.trans H;with_reducible exact H2_)|with_reducible exact H|(rw[ad];exact H)|exact H
 have ai:=Aside0.mk ad
 clear ad
 replace H:=Option.bind_eq_some_iff.mp H
 obtain⟨⟨af,ag,ak⟩,A30,H⟩:=H
 replace H:(some (af,ag,ak))=some (r1,r2,r3):=H
 have A3:=Aside0.mk A30
 clear A30
 simp only[Option.some.injEq,Prod.mk.injEq]at H
 obtain⟨rfl,rfl,rfl⟩:=H
 go_enter Tryz.func21,Tryz.ntmps21
 go_wp2_with (first|(refine gd 4 rfl ?_;refine kbe 4 #[.int .i64 0,.slice none 0 0] 28 ?_;intro ae hg w4 hbox hb;have aa:=Aside0.mk (hbox);have av:=kbz hg HB;have an:=kbz hg HB;replace HB:=kbs HB hb;clear hb hbox hg)|(refine gd 8 rfl ?_;refine Kd.R_lit (Kd.int .u64) _ 48 ?hg (N:=8) ?hd (xs:=([a1]:List Int)) (inner:=[.int .u64 a1]) (ok:=fun _=>True) (okp:=fun _=>True) ?hr ?hp (fun _ hk=>hk) trivial (Below.refl _ _) (Nat.le_refl _) Z1 ?_;(case hd=>rfl);(case hg=>rfl);(case hr=>first|(go_simp;done)|(go_simp;rfl));(case hp=>exact(Reps.one (show Kd.M (Kd.int .u64) _ _ _ a1 [.int .u64 a1] from rfl) (Reps.none _ _)));intro ay w5 ho6 hb hg_ hnew_;clear hg_ hnew_;(first|rw[←ai.out]at ho6|(simp only[Int.reduceToNat]at ho6;rw[←ai.out]at ho6));have ac:=Aside0.mk (Kd.R_lower ho6 (below_size (khu HB.out)));replace aa:=kbb aa hb;replace HB:=kbs HB hb;clear hb ho6;obtain⟨Ao7,co7,eo7⟩:=Kd.R_slice ac.out;subst eo7)|((with_reducible refine gate_callee (f:=17) rfl ?_);refine kgl (some 10) rfl rfl Tryz.func17 #[.int .i64 a0,.agg #[.bool false,.slice Ao7 ah.length co7]] rfl ?_;(with_reducible refine(bits_From.calls k a0 false _ _ ah af ag ak _ ?side1 ?side2 A3.out).mono ?_);(case side1=>repeat (first|exact(Kd.R_reads' ac.out).2.2|(with_reducible refine Kd.C_alloc ?_ _)|(with_reducible refine Kd.C_drewN ?_ _)|(with_reducible refine Kd.C_drew ?_)));(case side2=>exact(Kd.R_reads' ac.out).2.1);rintro e w8 ⟨az,rfl,ho0,hb⟩;refine⟨_,rfl,?_⟩;have aj:=Aside0.mk (Kd.R_lower (Kd.R_new' ho0 (Kd.R_lt (kru ac.out))) (below_size (khu HB.out)));replace ac:=Aside0.mk (Kd.R_elder' (kru ac.out) (Kd.R_base ho0) hb);replace aa:=kbb aa hb;replace HB:=kbs HB hb;(try clear hb);(try clear hb2);(try clear hk);(try clear hi);(try clear ho0);have ap:w8.cell? ⟨ae,0,none⟩=some (.int .i64 0):=(blk_cell aa.out 0).trans rfl;have aq:w8.cell? ⟨ae,1,none⟩=some (.slice none 0 0):=(blk_cell aa.out 1).trans rfl;have ar:=blk_frozen aa.out 0;have au:=blk_frozen aa.out 1;obtain⟨al,am,ao⟩:=Kd.R_slice aj.out;subst ao))
 refine bodyPost_ret (results_ct rfl _ _ ae 28 #[.int .i64 af,.slice al ag.length am] (0,0) _ rfl (kpu #[.int .i64 af,.slice none 0 0] 1 (kpu #[.int .i64 0,.slice none 0 0] 0 (kbu aa.out))) Tryz.underlying28 rfl Y0) rfl ?_
 exact⟨_,D0,by(with_reducible repeat (first|apply Kd.R_alloc|apply Kd.R_drewN|apply Kd.R_drew));exact Kd.R_mono (Kd.R_far (p:=⟨ae,1,none⟩) (Kd.R_far (p:=⟨ae,0,none⟩) (Kd.R_types aj.out aa.out X0) (fun _ hk=>hk.2) (.int .i64 af)) (fun _ hk=>hk.2) (.slice al ag.length am)) (fun _ hk=>trivial),by repeat (first|(with_reducible first|exact HB.out|apply below_alloc|apply pw_below_drewN|apply below_drew1|refine below_set ?_ an.out)|exact HB.out)⟩
def whole_Norm.f (k:Nat) (a0_0:Bool) (l0_1:List Int):Option (Bool×List Int):=(whole_of.f k a0_0 l0_1).bind fun bt761=>((whole_number_out.f bt761.1 bt761.2).bind fun bt765=>(some (bt765.1,bt765.2)))
theorem whole_Norm.mono:∀a0 a1 k,LeO (whole_Norm.f k a0 a1) (whole_Norm.f (k+1) a0 a1):=by
 intro a0 a1 k
 unfold whole_Norm.f
 repeat' first
   | (with_reducible exact whole_of.mono _ _ _)
   | (with_reducible exact LeO.refl _)
   | (with_reducible exact LeO.none _)
   | (with_reducible refine LeO.ite ?_ ?_)
   | (with_reducible refine LeO.bind ?_ (fun _=>?_))
   | exact whole_of.mono _ _ _
   | exact LeO.none _
   | refine LeO.ite ?_ ?_
   | refine LeO.bind ?_ (fun _=>?_)
theorem whole_Norm.calls (k:Nat) (ab:Bool) (ac:Option Addr) (ad:Nat) (aa:List Int) (r1:Bool) (r2:List Int) (w:World) (ae:Kd.C (Kd.int .u64) w ac aa.length aa) (af:aa.length≤ad) (h:whole_Norm.f k ab aa=some (r1,r2)) :
  Calls Tryz.prog 87 #[.agg #[.bool ab,.slice ac aa.length ad]] w fun e w'=>∃v1_:Value,e=.returned (.agg #[.bool r1,v1_])∧Kd.R (Kd.int .u64) 48 w' w.heap.size (fun _=>True) v1_ r2∧Below w.heap.size w w':=by
 have ah:=Tryz.underlying43
 have K:=Kp.refl w
 replace K:=K.parV (Kd.V_mono (ok':=fun _=>True) (Kd.V_mk (e:=48) (base:=0) af (Kd.C_F (Kd.heap_int .u64) ae)) (fun _ h=>trivial))
 clear ae af
 try simp only[klv]at K
 rw[whole_Norm.f]at h
 replace h:=bindA h
 obtain⟨⟨x5,z6⟩,A7,h⟩:=h
 dsimp only at h
 replace h:=bindA h
 obtain⟨⟨z14,x15⟩,A16,h⟩:=h
 dsimp only at h
 simp only[Option.some.injEq,Prod.mk.injEq]at h
 obtain⟨rfl,rfl⟩:=h
 go_enter Tryz.func87,Tryz.ntmps87
 go_wp2_with (first|(refine gd 1 rfl ?_;refine kbk 1 #[.bool ab,.slice ac aa.length ad] 43 K.u ?_;clear K;intro g1 W2 K)|(refine gd 2 rfl ?_;refine kbk 2 #[.bool false,.slice none 0 0] 43 K.u ?_;clear K;intro g3 W4 K;obtain⟨ua0,ub0⟩:=K.cell2 0 rfl)|(refine gd 4 rfl ?_;clear ua0 ub0;refine kgl (some 4) rfl rfl Tryz.func51 #[.agg #[.bool ab,.slice ac aa.length ad]] rfl ?_;refine(whole_of.calls _ ab _ _ _ aa x5 z6 _ (K.V 0 rfl) A7.out).mono ?_;rintro e W10 ⟨v8,rfl,ho9,hb⟩;refine⟨_,rfl,?_⟩;replace K:=K.u.add (fun _=>True) hb ho9 (fun _ h=>h.t);clear hb ho9;obtain⟨P11,c12,e13⟩:=K.slice 1 rfl;subst e13)|(refine gd 5 rfl ?_;refine kgl (some 5) rfl rfl Tryz.func153 #[.agg #[.slice P11 x5.length c12,.bool z6]] rfl ?_;refine(whole_number_out.calls _ _ x5 z6 z14 x15 _ (K.C 1 rfl) (K.le 1 rfl) A16.out).mono ?_;rintro e W19 ⟨v17,rfl,ag,hb⟩;refine⟨_,rfl,?_⟩;replace K:=K.u.addRE hb ag;clear hb ag;obtain⟨P20,c21,e22⟩:=K.slice 2 rfl;subst e22)|(refine gs 43 2 5 rfl ?_;refine ks2 1 (.bool z14) (.slice P20 x15.length c21) K.u rfl ?_;clear K;intro W23 K;simp only[kls,klv]at K))
 refine bodyPost_ret (results_single rfl (.cell g3 43 #[.bool z14,.slice P20 x15.length c21] (0,0) _ rfl (K.u.heap 1 rfl) Tryz.underlying43 rfl Y0 .nil)) rfl ?_
 exact⟨_,rfl,K.u.R 0 rfl,K.u.below⟩
def bits_u.f (k:Nat) (a0_0:Int) (l0_1:List Int):Option (Bool×List Int):=(whole_Norm.f k false l0_1).bind fun bt771=>(some (bt771.1,bt771.2))
theorem bits_u.mono:∀a0 a1 k,LeO (bits_u.f k a0 a1) (bits_u.f (k+1) a0 a1):=by
 intro a0 a1 k
 unfold bits_u.f
 repeat' first
   | (with_reducible exact whole_Norm.mono _ _ _)
   | (with_reducible exact LeO.refl _)
   | (with_reducible exact LeO.none _)
   | (with_reducible refine LeO.ite ?_ ?_)
   | (with_reducible refine LeO.bind ?_ (fun _=>?_))
   | exact whole_Norm.mono _ _ _
   | exact LeO.none _
   | refine LeO.ite ?_ ?_
   | refine LeO.bind ?_ (fun _=>?_)
theorem bits_u.calls (k:Nat) (ad:Int) (ab:Option Addr) (ac:Nat) (aa:List Int) (r1:Bool) (r2:List Int) (w:World) (ae:Kd.C (Kd.int .u64) w ab aa.length aa) (af:aa.length≤ac) (h:bits_u.f k ad aa=some (r1,r2)) :
  Calls Tryz.prog 43 #[.agg #[.int .i64 ad,.slice ab aa.length ac]] w fun e w'=>∃v1_:Value,e=.returned (.agg #[.bool r1,v1_])∧Kd.R (Kd.int .u64) 48 w' w.heap.size (fun _=>True) v1_ r2∧Below w.heap.size w w':=by
 have ag:=Tryz.underlying28
 have ah:=Tryz.underlying43
 have K:=Kp.refl w
 replace K:=K.parV (Kd.V_mono (ok':=fun _=>True) (Kd.V_mk (e:=48) (base:=0) af (Kd.C_F (Kd.heap_int .u64) ae)) (fun _ h=>trivial))
 clear ae af
 try simp only[klv]at K
 rw[bits_u.f]at h
 replace h:=bindA h
 obtain⟨⟨z5,x6⟩,A7,h⟩:=h
 dsimp only at h
 simp only[Option.some.injEq,Prod.mk.injEq]at h
 obtain⟨rfl,rfl⟩:=h
 go_enter Tryz.func43,Tryz.ntmps43
 go_wp2_with (first|(refine gd 1 rfl ?_;refine kbk 1 #[.int .i64 ad,.slice ab aa.length ac] 28 K.u ?_;clear K;intro g1 W2 K)|(refine gd 2 rfl ?_;refine kbk 2 #[.bool false,.slice none 0 0] 43 K.u ?_;clear K;intro g3 W4 K;obtain⟨ua0,ub0⟩:=K.cell2 0 rfl)|(refine gd 6 rfl ?_;clear ua0 ub0;refine kgl (some 6) rfl rfl Tryz.func87 #[.agg #[.bool false,.slice ab aa.length ac]] rfl ?_;refine(whole_Norm.calls _ false _ _ aa z5 x6 _ (K.C 0 rfl) (K.le 0 rfl) A7.out).mono ?_;rintro e W10 ⟨v8,rfl,ho9,hb⟩;refine⟨_,rfl,?_⟩;replace K:=K.u.addRE hb ho9;clear hb ho9;obtain⟨P11,c12,e13⟩:=K.slice 1 rfl;subst e13)|(refine gs 43 2 6 rfl ?_;refine ks2 1 (.bool z5) (.slice P11 x6.length c12) K.u rfl ?_;clear K;intro W14 K;simp only[kls,klv]at K))
 refine bodyPost_ret (results_single rfl (.cell g3 43 #[.bool z5,.slice P11 x6.length c12] (0,0) _ rfl (K.u.heap 1 rfl) Tryz.underlying43 rfl Y0 .nil)) rfl ?_
 exact⟨_,rfl,K.u.R 0 rfl,K.u.below⟩
def whole_number_told.f (l0_0:List Int) (a0_1:Bool):Option (Bool×List Int×Int):=(whole_number_long.f l0_0 a0_1).bind fun t421=>(if t421=true then(some (false,([]:List Int),5)) else((whole_number_out.f l0_0 a0_1).bind fun bt422=>(some (bt422.1,bt422.2,0))))
theorem whole_number_told.calls (ac:Option Addr) (ad:Nat) (aa:List Int) (ab:Bool) (r1:Bool) (r2:List Int) (r3:Int) (w:World) (ae:Kd.C (Kd.int .u64) w ac aa.length aa) (af:aa.length≤ad) (h:whole_number_told.f aa ab=some (r1,r2,r3)) :
  Calls Tryz.prog 154 #[.agg #[.slice ac aa.length ad,.bool ab]] w fun e w'=>∃v1_:Value,e=.returned (.tuple #[.agg #[.bool r1,v1_],.int .i64 r3])∧Kd.R (Kd.int .u64) 48 w' w.heap.size (fun _=>True) v1_ r2∧Below w.heap.size w w':=by
 have ah:=Tryz.underlying43
 have ai:=Tryz.underlying90
 have K:=Kp.refl w
 replace K:=K.parV (Kd.V_mono (ok':=fun _=>True) (Kd.V_mk (e:=48) (base:=0) af (Kd.C_F (Kd.heap_int .u64) ae)) (fun _ h=>trivial))
 clear ae af
 try simp only[klv]at K
 rw[whole_number_told.f]at h
 replace h:=bindA h
 obtain⟨z5,A6,h⟩:=h
 by_cases c_0:z5=true
 ·subst c_0
  rw[if_pos rfl]at h
  simp only[Option.some.injEq,Prod.mk.injEq]at h
  obtain⟨rfl,rfl,rfl⟩:=h
  go_enter Tryz.func154,Tryz.ntmps154
  go_wp2_with (first|(refine gd 1 rfl ?_;refine kbk 1 #[.slice ac aa.length ad,.bool ab] 90 K.u ?_;clear K;intro g1 W2 K)|(refine gd 2 rfl ?_;refine kbk 2 #[.bool false,.slice none 0 0] 43 K.u ?_;clear K;intro g3 W4 K;obtain⟨ua0,ub0⟩:=K.cell2 0 rfl)|(refine gd 5 rfl ?_;clear ua0 ub0;refine kgl (some 5) rfl rfl Tryz.func163 #[.agg #[.slice ac aa.length ad,.bool ab]] rfl ?_;refine(whole_number_long.calls _ _ aa ab true _ (K.C 0 rfl) (K.le 0 rfl) A6.out).mono ?_;rintro e W7 ⟨rfl,hb⟩;refine⟨_,rfl,?_⟩;replace K:=K.u.up hb;clear hb)|(refine gs 43 2 6 rfl ?_;refine ks2 1 (.bool false) (.slice none 0 0) K.u rfl ?_;clear K;intro W8 K;simp only[kls,klv]at K))
  refine bodyPost_ret (results_list (rs:=[.cell 2 43,.tmp 3]) rfl Z1 (.cell g3 43 #[.bool false,.slice none 0 0] (0,0) _ rfl (K.u.heap 1 rfl) Tryz.underlying43 rfl Y0 (.tmp .nil))) rfl ?_
  exact⟨_,rfl,Kd.R_nil _ _ _ _ _,K.u.below⟩
 replace c_0:=Bool.eq_false_iff.mpr c_0
 subst c_0
 rw[if_neg X0]at h
 replace h:=bindA h
 obtain⟨⟨z8,x9⟩,A10,h⟩:=h
 dsimp only at h
 simp only[Option.some.injEq,Prod.mk.injEq]at h
 obtain⟨rfl,rfl,rfl⟩:=h
 go_enter Tryz.func154,Tryz.ntmps154
 go_wp2_with (first|(refine gd 1 rfl ?_;refine kbk 1 #[.slice ac aa.length ad,.bool ab] 90 K.u ?_;clear K;intro g1 W2 K)|(refine gd 2 rfl ?_;refine kbk 2 #[.bool false,.slice none 0 0] 43 K.u ?_;clear K;intro g3 W4 K;obtain⟨ua0,ub0⟩:=K.cell2 0 rfl)|(refine gd 5 rfl ?_;clear ua0 ub0;refine kgl (some 5) rfl rfl Tryz.func163 #[.agg #[.slice ac aa.length ad,.bool ab]] rfl ?_;refine(whole_number_long.calls _ _ aa ab false _ (K.C 0 rfl) (K.le 0 rfl) A6.out).mono ?_;rintro e W7 ⟨rfl,hb⟩;refine⟨_,rfl,?_⟩;replace K:=K.u.up hb;clear hb;obtain⟨ua0,ub0⟩:=K.cell2 0 rfl)|(refine gd 8 rfl ?_;clear ua0 ub0;refine kgl (some 8) rfl rfl Tryz.func153 #[.agg #[.slice ac aa.length ad,.bool ab]] rfl ?_;refine(whole_number_out.calls _ _ aa ab z8 x9 _ (K.C 0 rfl) (K.le 0 rfl) A10.out).mono ?_;rintro e W13 ⟨v11,rfl,ag,hb⟩;refine⟨_,rfl,?_⟩;replace K:=K.u.addRE hb ag;clear hb ag;obtain⟨P14,c15,e16⟩:=K.slice 1 rfl;subst e16)|(refine gs 43 2 8 rfl ?_;refine ks2 1 (.bool z8) (.slice P14 x9.length c15) K.u rfl ?_;clear K;intro W17 K;simp only[kls,klv]at K))
 refine bodyPost_ret (results_list (rs:=[.cell 2 43,.tmp 3]) rfl Z1 (.cell g3 43 #[.bool z8,.slice P14 x9.length c15] (0,0) _ rfl (K.u.heap 1 rfl) Tryz.underlying43 rfl Y0 (.tmp .nil))) rfl ?_
 exact⟨_,rfl,K.u.R 0 rfl,K.u.below⟩
def whole_Sub.f (k:Nat) (a0_0:Bool) (l0_1:List Int) (a1_0:Bool) (l1_1:List Int):Option (Bool×List Int×Int):=(whole_of.f k a0_0 l0_1).bind fun bt429=>((whole_of.f k a1_0 l1_1).bind fun bt433=>((whole_number_minus.f k bt429.1 bt429.2 bt433.1 bt433.2).bind fun bt437=>((whole_number_told.f bt437.1 bt437.2).bind fun bt441=>(some (bt441.1,bt441.2.1,bt441.2.2)))))
theorem whole_Sub.mono:∀a0 a1 a2 a3 k,LeO (whole_Sub.f k a0 a1 a2 a3) (whole_Sub.f (k+1) a0 a1 a2 a3):=by
 intro a0 a1 a2 a3 k
 unfold whole_Sub.f
 repeat' first
   | (with_reducible exact whole_number_minus.mono _ _ _ _ _)
   | (with_reducible exact whole_of.mono _ _ _)
   | (with_reducible exact LeO.refl _)
   | (with_reducible exact LeO.none _)
   | (with_reducible refine LeO.ite ?_ ?_)
   | (with_reducible refine LeO.bind ?_ (fun _=>?_))
   | exact whole_number_minus.mono _ _ _ _ _
   | exact whole_of.mono _ _ _
   | exact LeO.none _
   | refine LeO.ite ?_ ?_
   | refine LeO.bind ?_ (fun _=>?_)
def whole_Sub.T1:Bool×List (List Nat×List Nat):=(true,[([],[]),([0],[0]),([],[]),([2,1],[2]),([1,3,3],[1,3]),([4,4],[4]),([5],[5]),([5],[5]),([6,5,0,1,2,3,4,5,6,7],[6]),([7,8,0,1,2,3,4,5,6,7,8],[7])])
def whole_Sub.B1:List Nat:=[0,1,0,7,15,31,63,63,255,511]
theorem whole_Sub.tab1:rtab .any (opsOf Tryz.f89 1)=whole_Sub.T1:=by kernel_rfl
theorem whole_Sub.bits1:waitsOk whole_Sub.T1.2 whole_Sub.B1=true:=by kernel_rfl
theorem whole_Sub.calls (k:Nat) (ac:Bool) (ae:Option Addr) (af:Nat) (aa:List Int) (ad:Bool) (ag:Option Addr) (ah:Nat) (ab:List Int) (r1:Bool) (r2:List Int) (r3:Int) (w:World) (ai:Kd.C (Kd.int .u64) w ae aa.length aa) (aj:aa.length≤af) (ak:Kd.C (Kd.int .u64) w ag ab.length ab) (al:ab.length≤ah) (h:whole_Sub.f k ac aa ad ab=some (r1,r2,r3)) :
  Calls Tryz.prog 89 #[.agg #[.bool ac,.slice ae aa.length af],.agg #[.bool ad,.slice ag ab.length ah]] w fun e w'=>∃v1_:Value,e=.returned (.tuple #[.agg #[.bool r1,v1_],.int .i64 r3])∧Kd.R (Kd.int .u64) 48 w' w.heap.size (fun _=>True) v1_ r2∧Below w.heap.size w w':=by
 have aq:=Tryz.underlying43
 have K:=Kp.refl w
 replace K:=K.parV (Kd.V_mono (ok':=fun _=>True) (Kd.V_mk (e:=48) (base:=0) aj (Kd.C_F (Kd.heap_int .u64) ai)) (fun _ h=>trivial))
 clear ai aj
 replace K:=K.parV (Kd.V_mono (ok':=fun _=>True) (Kd.V_mk (e:=48) (base:=0) al (Kd.C_F (Kd.heap_int .u64) ak)) (fun _ h=>trivial))
 clear ak al
 try simp only[klv]at K
 rw[whole_Sub.f]at h
 go_enter Tryz.func89,Tryz.ntmps89
 go_wp2_with (first|(refine gd 2 rfl ?_;refine kbk 2 #[.bool ac,.slice ae aa.length af] 43 K.u ?_;clear K;intro g1 W2 K)|(refine gd 3 rfl ?_;refine kbk 3 #[.bool ad,.slice ag ab.length ah] 43 K.u ?_;clear K;intro g3 W4 K)|(refine gd 4 rfl ?_;refine kbk 4 #[.bool false,.slice none 0 0] 43 K.u ?_;clear K;intro g5 W6 K))
 replace h:=bindA h
 obtain⟨⟨x7,z8⟩,A9,h⟩:=h
 dsimp only at h
 replace h:=bindA h
 obtain⟨⟨x10,z11⟩,A12,h⟩:=h
 dsimp only at h
 replace h:=bindA h
 obtain⟨⟨x13,z14⟩,A15,h⟩:=h
 dsimp only at h
 replace h:=bindA h
 obtain⟨⟨z16,x17,n18⟩,A19,h⟩:=h
 dsimp only at h
 obtain⟨Bs,Vs,Os,hBs,hVs,hOs,K⟩:=K.abs
 have HS:Aside0 (∀l m o W,Kp w (Bs++l) m o W→W.cell? ⟨g1,0,none⟩=some (.bool ac)∧W.cell? ⟨g1,1,none⟩=some (.slice ae aa.length af)∧W.cell? ⟨g3,0,none⟩=some (.bool ad)∧W.cell? ⟨g3,1,none⟩=some (.slice ag ab.length ah)):=⟨fun l m o W K=>by rw[hBs.out]at K;exact⟨K.cell 0 rfl 0 rfl,K.cell 0 rfl 1 rfl,K.cell 1 rfl 0 rfl,K.cell 1 rfl 1 rfl⟩⟩
 refine kpstart (n:=10) (ds:=[]) (S:=fun W=>W.cell? ⟨g1,0,none⟩=some (.bool ac)∧W.cell? ⟨g1,1,none⟩=some (.slice ae aa.length af)∧W.cell? ⟨g3,0,none⟩=some (.bool ad)∧W.cell? ⟨g3,1,none⟩=some (.slice ag ab.length ah)) (bm_ 10 0) Y0 rfl rfl K (HS.out [] _ _) (fun W24 K hH=>?_)
 refine with_tabW whole_Sub.tab1 whole_Sub.bits1 (fun HT_ HW_=>?_)
 refine tk_ 0 6 ?_ (bm_ 10 1) rfl rfl (take_ofW HT_.out HW_.out Y0) (fun _ _ _ h=>h) F0 ?_ hH ?_ ?_ ?_
 rotate_left
 ·rintro w' ⟨s0,s1,s2,s3⟩
  go_simp
  with_reducible rfl
 rotate_left
 ·simp only[Act.put,kss,i64_w,i32_w]
  rfl
 refine tk_ 2 8 ?_ (bm_ 10 5) rfl rfl (take_ofW HT_.out HW_.out Y0) (fun _ _ _ h=>h) F0 ?_ hH ?_ ?_ ?_
 rotate_left
 ·rintro w' ⟨s0,s1,s2,s3⟩
  go_simp
  with_reducible rfl
 rotate_left
 ·simp only[Act.put,kss,i64_w,i32_w]
  rfl
 refine one_ (i:=1) (N:=some 7) (bm_ 10 7) rfl rfl (one_of HT_.out Y0) X0 (fun Kc hK=>?_)
 refine kgo Tryz.func51 #[.agg #[.bool ac,.slice ae aa.length af]] F0 rfl rfl ?_
 refine(whole_of.calls _ ac _ _ _ aa x7 z8 _ (K.V 0 (hv hVs rfl)) A9.out).mono ?_
 rintro e W' ⟨v20,rfl,am,hb⟩
 replace K:=K.addI 0 (fun _=>True) hb am (fun _ h=>h.t)
 clear hb am
 refine⟨_,rfl,hK.out _ _ (HS.out _ _ _ _ K) fun hH=>?_⟩
 clear hK Kc
 refine norm_ (a':=?_) ?_ ?_
 rotate_left
 ·show Act.put _ (some 7) _=_
  simp only[Act.put,kss,i64_w,i32_w]
  rfl
 refine one_ (i:=3) (N:=some 9) (bm_ 10 15) rfl rfl (one_of HT_.out Y0) X0 (fun Kc hK=>?_)
 refine kgo Tryz.func51 #[.agg #[.bool ad,.slice ag ab.length ah]] F0 rfl rfl ?_
 refine(whole_of.calls _ ad _ _ _ ab x10 z11 _ (K.V 1 (hv hVs rfl)) A12.out).mono ?_
 rintro e W' ⟨v21,rfl,an,hb⟩
 replace K:=K.addI 1 (fun _=>True) hb an (fun _ h=>h.t)
 clear hb an
 refine⟨_,rfl,hK.out _ _ (HS.out _ _ _ _ K) fun hH=>?_⟩
 clear hK Kc
 refine norm_ (a':=?_) ?_ ?_
 rotate_left
 ·show Act.put _ (some 9) _=_
  simp only[Act.put,kss,i64_w,i32_w]
  rfl
 refine one_ (i:=4) (N:=some 10) (bm_ 10 31) rfl rfl (one_of HT_.out Y0) X0 (fun Kc hK=>?_)
 obtain⟨P27,c28,e29⟩:=K.slice 2 (hv hVs rfl)
 subst e29
 obtain⟨P30,c31,e32⟩:=K.slice 3 (hv hVs rfl)
 subst e32
 refine kgo Tryz.func146 #[.agg #[.slice P27 x7.length c28,.bool z8],.agg #[.slice P30 x10.length c31,.bool z11]] F0 rfl rfl ?_
 refine(whole_number_minus.calls _ _ _ _ x7 z8 _ _ _ x10 z11 x13 z14 _ (K.V 2 (hv hVs rfl)) (K.V 3 (hv hVs rfl)) A15.out).mono ?_
 rintro e W' ⟨v22,rfl,ao,hb⟩
 replace K:=K.addI 2 (fun _=>True) hb ao (fun _ h=>h.elim (fun h=>h.t) fun h=>h.t)
 clear hb ao
 refine⟨_,rfl,hK.out _ _ (HS.out _ _ _ _ K) fun hH=>?_⟩
 clear hK Kc
 refine norm_ (a':=?_) ?_ ?_
 rotate_left
 ·show Act.put _ (some 10) _=_
  simp only[Act.put,kss,i64_w,i32_w]
  rfl
 refine one_ (i:=5) (N:=some 11) (bm_ 10 63) rfl rfl (one_of HT_.out Y0) X0 (fun Kc hK=>?_)
 obtain⟨P34,c35,e36⟩:=K.slice 4 (hv hVs rfl)
 subst e36
 refine kgo Tryz.func154 #[.agg #[.slice P34 x13.length c35,.bool z14]] F0 rfl rfl ?_
 refine(whole_number_told.calls _ _ x13 z14 z16 x17 n18 _ (K.C 4 (hv hVs rfl)) (K.le 4 (hv hVs rfl)) A19.out).mono ?_
 rintro e W' ⟨v23,rfl,ap,hb⟩
 replace K:=K.addRI 3 0 hb ap (lb rfl)
 clear hb ap
 refine⟨_,rfl,hK.out _ _ (HS.out _ _ _ _ K) fun hH=>?_⟩
 refine norm_ (a':=?_) ?_ ?_
 rotate_left
 ·show Act.put _ (some 11) _=_
  simp only[Act.put,kss,i64_w,i32_w]
  rfl
 refine pu_ 6 12 ?_ (bm_ 10 127) rfl rfl (any_of HT_.out Y0) (fun _ _ _ h=>h) F0 ?_ ?_ ?_ ?_
 rotate_left
 ·intro w'
  go_simp
  with_reducible rfl
 rotate_left
 ·simp only[Act.put,kss,i64_w,i32_w]
  rfl
 refine pu_ 7 13 ?_ (bm_ 10 255) rfl rfl (any_of HT_.out Y0) (fun _ _ _ h=>h) F0 ?_ ?_ ?_ ?_
 rotate_left
 ·intro w'
  go_simp
  with_reducible rfl
 rotate_left
 ·simp only[Act.put,kss,i64_w,i32_w]
  rfl
 clear hK Kc
 obtain⟨P38,c39,e40⟩:=K.slice 5 (hv hVs rfl)
 subst e40
 rw[hBs.out,hVs.out,hOs.out]at K
 simp only[kls,klv]at K
 clear hBs hVs hOs HS hH
 refine ko2 (i:=8) (bm_ 10 511) 2 (.bool z16) (.slice P38 x17.length c39) K rfl rfl rfl (one_of HT_.out Y0) X0 F0 (fun W K=>⟨K.cell 0 rfl 0 rfl,K.cell 0 rfl 1 rfl,K.cell 1 rfl 0 rfl,K.cell 1 rfl 1 rfl⟩) ?_
 clear K
 intro W41 K
 simp only[kls,klv]at K
 refine pu_ 9 5 ?_ (bm_ 10 1023) rfl rfl (any_of HT_.out Y0) (fun _ _ _ h=>h) F0 ?_ ?_ ?_ ?_
 rotate_left
 ·intro w'
  go_simp
  with_reducible rfl
 rotate_left
 ·simp only[Act.put,kss,i64_w,i32_w]
  rfl
 refine done_ (done_of HT_.out Y0) ?_
 clear HT_ HW_
 simp only[Option.some.injEq,Prod.mk.injEq]at h
 obtain⟨rfl,rfl,rfl⟩:=h
 go_wp2
 refine bodyPost_ret (results_list (rs:=[.cell 4 43,.tmp 5]) rfl Z1 (.cell g5 43 #[.bool z16,.slice P38 x17.length c39] (0,0) _ rfl (K.u.heap 2 rfl) Tryz.underlying43 rfl Y0 (.tmp .nil))) rfl ?_
 exact⟨_,rfl,K.u.R 0 rfl,K.u.below⟩
def nat_Bit.f (l0:List Int) (a1:Int):Option (Bool):=if a1≥0 then(if(wrap64 (Int.tdiv a1 64))<(l0.length:Int) then(if 0≤(wrap64 (Int.tdiv a1 64)) then(if 0≤(IntKind.u64.wrap (Int.tmod a1 64)) then(some ((Go.bits .and .u64 (shr .u64 (rd l0 (wrap64 (Int.tdiv a1 64))) (IntKind.u64.wrap (Int.tmod a1 64))) 1)==1)) else(none)) else(none)) else(some false)) else(some false)
theorem nat_Bit.calls (A0:Option Addr) (c0:Nat) (l0:List Int) (a1:Int) (r:Bool) (w:World) (hr0:Kd.C (Kd.int .u64) w A0 l0.length l0) (hc0:l0.length≤c0) (h:nat_Bit.f l0 a1=some r) :
  Calls Tryz.prog 88 #[.slice A0 l0.length c0,.int .i64 a1] w fun e w'=>e=.returned (.bool r)∧Drawn0 w w':=by
 have HR0:=Aside0.mk hr0
 have HC0:=Aside0.mk hc0
 clear hr0 hc0
 have H:(if a1≥0 then(if(wrap64 (Int.tdiv a1 64))<(l0.length:Int) then(if 0≤(wrap64 (Int.tdiv a1 64)) then(if 0≤(IntKind.u64.wrap (Int.tmod a1 64)) then(some ((Go.bits .and .u64 (shr .u64 (rd l0 (wrap64 (Int.tdiv a1 64))) (IntKind.u64.wrap (Int.tmod a1 64))) 1)==1)) else(none)) else(none)) else(some false)) else(some false))=some r:=h
 clear h
 by_cases c3:a1≥0
 ·rw [if_pos c3]at H
  have af:decide (0≤a1)=true:=decide_eq_true c3
  clear c3
  by_cases c4:(wrap64 (Int.tdiv a1 64))<(l0.length:Int)
  ·rw[if_pos c4]at H
   have ae:decide ((wrap64 (Int.tdiv a1 64))<(l0.length:Int))=true:=decide_eq_true c4
   clear c4
   obtain⟨ji5,hji5⟩:∃j_:Int,(wrap64 (Int.tdiv a1 64))=j_:=⟨_,rfl⟩
   replace H:(if 0≤(ji5) then(if 0≤(IntKind.u64.wrap (Int.tmod a1 64)) then(some ((Go.bits .and .u64 (shr .u64 (rd l0 (ji5)) (IntKind.u64.wrap (Int.tmod a1 64))) 1)==1)) else(none)) else(none))=some r:=by first|(rw[hji5]at H;exact H)|(simp only[hji5]at H ⊢;exact H)
   (try rw[hji5]at ae)
   have ai:(IntKind.i64.wrap (Int.tdiv a1 64))=ji5:=(i64_w _).trans hji5
   by_cases c6:0≤(ji5)
   ·rw[if_pos c6]at H
    have al:decide (0≤(ji5))=true:=decide_eq_true c6
    clear c6
    obtain⟨ji7,ab⟩:∃j_:Int,(IntKind.u64.wrap (Int.tmod a1 64))=j_:=⟨_,rfl⟩
    replace H:(if 0≤(ji7) then(some ((Go.bits .and .u64 (shr .u64 (rd l0 (ji5)) (ji7)) 1)==1)) else(none))=some r:=by first|(rw[ab]at H;exact H)|(simp only[ab]at H ⊢;exact H)
    by_cases c8:0≤(ji7)
    ·rw[if_pos c8]at H
     have am:=eq_true c8
     have an:decide (0≤(ji7))=true:=decide_eq_true c8
     clear c8
     obtain⟨ji9,aa⟩:∃j_:Int,(shr .u64 (rd l0 (ji5)) (ji7))=j_:=⟨_,rfl⟩
     replace H:(some ((Go.bits .and .u64 (ji9) 1)==1))=some r:=by first|(rw[aa]at H;exact H)|(simp only[aa]at H ⊢;exact H)
     have hji9_:((rd l0 (ji5))/2^min (ji7).toNat 64)=ji9:=aa
     have aj:(ji7)≤64→((rd l0 (ji5))/2^(ji7).toNat)=ji9:=shr_small aa
     obtain rfl:=Option.some.inj H
     have ac:0≤((ji5):Int):=of_decide_eq_true ‹_›
     have ad:(ji5)<(l0.length:Int):=of_decide_eq_true ‹_›
     obtain⟨ak,ag,ah⟩:=Kd.at_int HR0.out (ji5) ac ad
     cases ag
     replace ac:=eq_true ac
     replace ad:=eq_true ad
     go_enter Tryz.func88,Tryz.ntmps88
     go_wp2
     go_ret
     exact⟨by first|rfl|(simp;done)|(simp only[←hji5,←ab,←aa]<;>(first|rfl|simp))|(simp[*];done),Y1⟩
    rw[if_neg c8]at H
    exact absurd H Z1
   rw[if_neg c6]at H
   exact absurd H Z1
  rw[if_neg c4]at H
  have ae:decide ((wrap64 (Int.tdiv a1 64))<(l0.length:Int))=false:=decide_eq_false c4
  clear c4
  obtain rfl:=Option.some.inj H
  go_enter Tryz.func88,Tryz.ntmps88
  go_wp2
  go_ret
  exact⟨J0,Y1⟩
 rw[if_neg c3]at H
 have af:decide (0≤a1)=false:=decide_eq_false c3
 clear c3
 obtain rfl:=Option.some.inj H
 go_enter Tryz.func88,Tryz.ntmps88
 go_wp2
 go_ret
 exact⟨J0,Y1⟩
def bits_s.f (k:Nat) (a0_0:Int) (l0_1:List Int):Option (Bool×List Int):=(nat_Bit.f l0_1 (wrap64 (a0_0-1))).bind fun t778=>(if t778=true then((bits_u.f k a0_0 l0_1).bind fun bt779=>((bits_power.f k a0_0).bind fun bt783=>((whole_Sub.f k bt779.1 bt779.2 bt783.1 bt783.2).bind fun bt787=>(some (bt787.1,bt787.2.1))))) else((bits_u.f k a0_0 l0_1).bind fun bt793=>(some (bt793.1,bt793.2))))
theorem bits_s.mono:∀a0 a1 k,LeO (bits_s.f k a0 a1) (bits_s.f (k+1) a0 a1):=by
 intro a0 a1 k
 unfold bits_s.f
 repeat' first
   | (with_reducible exact bits_power.mono _ _)
   | (with_reducible exact bits_u.mono _ _ _)
   | (with_reducible exact whole_Sub.mono _ _ _ _ _)
   | (with_reducible exact LeO.refl _)
   | (with_reducible exact LeO.none _)
   | (with_reducible refine LeO.ite ?_ ?_)
   | (with_reducible refine LeO.bind ?_ (fun _=>?_))
   | exact bits_power.mono _ _
   | exact bits_u.mono _ _ _
   | exact whole_Sub.mono _ _ _ _ _
   | exact LeO.none _
   | refine LeO.ite ?_ ?_
   | refine LeO.bind ?_ (fun _=>?_)
def bits_s.T3:Bool×List (List Nat×List Nat):=(true,[([],[]),([0],[0]),([],[]),([2],[2]),([3,1],[3]),([1,4,4],[1,4]),([5],[5]),([6],[6]),([6],[6]),([],[]),([9,7,5,0,1,2,3,4,5,6,7,9],[7,9]),([8,10,0,1,2,3,4,5,6,7,8,9,10],[8])])
def bits_s.B3:List Nat:=[0,1,0,4,15,31,63,127,127,0,767,2047]
theorem bits_s.tab3:rtab .any (opsOf Tryz.f44 3)=bits_s.T3:=by kernel_rfl
theorem bits_s.bits3:waitsOk bits_s.T3.2 bits_s.B3=true:=by kernel_rfl
theorem bits_s.calls (k:Nat) (ac:Int) (am:Option Addr) (an:Nat) (af:List Int) (r1:Bool) (r2:List Int) (w:World) (aX:Kd.C (Kd.int .u64) w am af.length af) (aY:af.length≤an) (h:bits_s.f k ac af=some (r1,r2)) :
  Calls Tryz.prog 44 #[.agg #[.int .i64 ac,.slice am af.length an]] w fun e w'=>∃v1_:Value,e=.returned (.agg #[.bool r1,v1_])∧Kd.R (Kd.int .u64) 48 w' w.heap.size (fun _=>True) v1_ r2∧Below w.heap.size w w':=by
 have cd:=Tryz.underlying28
 have ce:=Tryz.underlying43
 have aM:=Aside0.mk aX
 have aN:=Aside0.mk aY
 clear aX aY
 have HB:=Aside0.mk (Below.refl w.heap.size w)
 have H:((nat_Bit.f af (wrap64 (ac-1))).bind fun aR=>(if aR=true then((bits_u.f k ac af).bind fun aC=>((bits_power.f k ac).bind fun ar=>((whole_Sub.f k aC.1 aC.2 ar.1 ar.2).bind fun aq=>(some (aq.1,aq.2.1))))) else((bits_u.f k ac af).bind fun aD=>(some (aD.1,aD.2)))))=some (r1,r2):=h
 clear h
 replace H:=Option.bind_eq_some_iff.mp H
 obtain⟨aR,A20,H⟩:=H
 replace H:(if aR=true then((bits_u.f k ac af).bind fun aC=>((bits_power.f k ac).bind fun ar=>((whole_Sub.f k aC.1 aC.2 ar.1 ar.2).bind fun aq=>(some (aq.1,aq.2.1))))) else((bits_u.f k ac af).bind fun aD=>(some (aD.1,aD.2))))=some (r1,r2):=H
 have A2:=Aside0.mk A20
 clear A20
 by_cases c3:aR=true
 ·subst c3
  have H1:((bits_u.f k ac af).bind fun aC=>((bits_power.f k ac).bind fun ar=>((whole_Sub.f k aC.1 aC.2 ar.1 ar.2).bind fun aq=>(some (aq.1,aq.2.1)))))=some (r1,r2):=by rw[if_pos rfl]at H;exact H
  clear H
  have H:=H1
  clear H1
  replace H:=Option.bind_eq_some_iff.mp H
  obtain⟨⟨au,ao⟩,A40,H⟩:=H
  replace H:((bits_power.f k ac).bind fun ar=>((whole_Sub.f k au ao ar.1 ar.2).bind fun aq=>(some (aq.1,aq.2.1))))=some (r1,r2):=H
  have A4:=Aside0.mk A40
  clear A40
  replace H:=Option.bind_eq_some_iff.mp H
  obtain⟨⟨av,ap⟩,A50,H⟩:=H
  replace H:((whole_Sub.f k au ao av ap).bind fun aq=>(some (aq.1,aq.2.1)))=some (r1,r2):=H
  have A5:=Aside0.mk A50
  clear A50
  replace H:=Option.bind_eq_some_iff.mp H
  obtain⟨⟨aw,aF,aL⟩,A60,H⟩:=H
  replace H:(some (aw,aF))=some (r1,r2):=H
  have A6:=Aside0.mk A60
  clear A60
  simp only[Option.some.injEq,Prod.mk.injEq]at H
  obtain⟨rfl,rfl⟩:=H
  go_enter Tryz.func44,Tryz.ntmps44
  try go_wp2_with (first|(refine gd 1 rfl ?_;refine kbe 1 #[.int .i64 ac,.slice am af.length an] 28 ?_;intro ak hg w7 hbox hb;have aa:=Aside0.mk (hbox);have bi:=kbz hg HB;have aS:=kbz hg HB;replace HB:=kbs HB hb;clear hb hbox hg)|(refine gd 2 rfl ?_;refine kbe 2 #[.bool false,.slice none 0 0] 43 ?_;intro al hg w8 hbox hb;have ab:=Aside0.mk (hbox);have bj:=kbz hg HB;have aT:=kbz hg HB;replace HB:=kbs HB hb;have aG:=knl hg aa;have aH:=kng hg aa;replace aa:=kbb aa hb;clear hb hbox hg;have cf:=aG.out;have cg:=aH.out;have bl:w8.cell? ⟨ak,0,none⟩=some (.int .i64 ac):=(blk_cell aa.out 0).trans rfl;have bn:w8.cell? ⟨ak,1,none⟩=some (.slice am af.length an):=(blk_cell aa.out 1).trans rfl;have bo:=blk_frozen aa.out 0;have bp:=blk_frozen aa.out 1)|((with_reducible refine gate_callee (f:=88) rfl ?_);refine kgl (some 10) rfl rfl Tryz.func88 #[.slice am af.length an,.int .i64 (wrap64 (ac-1))] rfl ?_;(with_reducible refine(nat_Bit.calls _ _ af (wrap64 (ac-1)) true _ ?side1 ?side2 A2.out).mono ?_);(case side1=>repeat (first|exact(Kd.C_below aM.out HB.out)|(with_reducible refine Kd.C_alloc ?_ _)|(with_reducible refine Kd.C_drewN ?_ _)|(with_reducible refine Kd.C_drew ?_)));(case side2=>exact aN.out);rintro e w' ⟨rfl,⟨nd,rfl⟩⟩;refine⟨_,rfl,?_⟩;(try(rw[drewN_self w8];generalize hq_:World.drewN w8 _=w8;have n0_:Aside0 (w8.heap[ak]? = some (.cells #[.int .i64 ac,.slice am af.length an] 28 (0,0))):=⟨by rw[←hq_];exact(kbu aa.out)⟩;have n1_:Aside0 (w8.heap[al]? = some (.cells #[.bool false,.slice none 0 0] 43 (0,0))):=⟨by rw[←hq_];exact(kbu ab.out)⟩;have n2_:Aside0 (Below w.heap.size w w8):=⟨by rw[←hq_];exact(khu HB.out)⟩;clear aa ab HB hq_;have aa:=n0_;have ab:=n1_;have HB:=n2_;clear n0_ n1_ n2_))))
  replace aa:=Aside0.mk (blk_drew aa.out);replace ab:=Aside0.mk (blk_drew ab.out);replace HB:=Aside0.mk (below_drew1 HB.out)
  refine start_ (n:=12) (S:=fun w'=>w'.cell? ⟨ak,0,none⟩=some (.int .i64 ac)∧w'.cell? ⟨ak,1,none⟩=some (.slice am af.length an)) (ds:=[]) (bm_ 12 0) Y0 rfl rfl ⟨(blk_cell aa.out 0).trans rfl,(blk_cell aa.out 1).trans rfl⟩ (fun hHeld=>?_);refine with_tabW bits_s.tab3 bits_s.bits3 (fun HT_ HW_=>?_)
  generalize w8.drew=w11 at aa ab HB hHeld ⊢
  refine pu_ 2 17 ?_ (bm_ 12 4) rfl rfl (any_of HT_.out Y0) (fun _ _ _ h=>h) F0 ?_ ?_ ?_ ?_
  rotate_left
  ·intro w'
   go_simp
   with_reducible rfl
  rotate_left
  ·simp only[Act.put,kss,i64_w,i32_w]
   rfl
  refine tk_ 0 15 ?_ (bm_ 12 5) rfl rfl (take_ofW HT_.out HW_.out Y0) (fun _ _ _ h=>h) F0 ?_ hHeld ?_ ?_ ?_
  rotate_left
  ·rintro w' ⟨s0,s1⟩
   go_simp
   with_reducible rfl
  rotate_left
  ·simp only[Act.put,kss,i64_w,i32_w]
   rfl
  refine tk_ 3 18 ?_ (bm_ 12 13) rfl rfl (take_ofW HT_.out HW_.out Y0) (fun _ _ _ h=>h) F0 ?_ hHeld ?_ ?_ ?_
  rotate_left
  ·rintro w' ⟨s0,s1⟩
   go_simp
   with_reducible rfl
  rotate_left
  ·simp only[Act.put,kss,i64_w,i32_w]
   rfl
  refine join_ (σ:=Value×Value×Value×Nat) 2 (bm_ 12 1023) (fun s_=>[(16,.agg #[.bool au,s_.1]),(19,.agg #[.bool av,s_.2.1]),(20,.tuple #[.agg #[.bool aw,s_.2.2.1],.int .i64 aL]),(3,.pointer (some ⟨s_.2.2.2,0,none⟩)),(14,.tuple #[.agg #[.bool aw,s_.2.2.1],.int .i64 aL]),(21,.agg #[.bool aw,s_.2.2.1]),(22,.int .i64 aL)]) (fun s_ w'=>(w'.cell? ⟨ak,0,none⟩=some (.int .i64 ac)∧w'.cell? ⟨ak,1,none⟩=some (.slice am af.length an))∧(Kd.R (Kd.int .u64) 48 w' w.heap.size (fun k_=>some k_≠(s_.2.1:Value).ownBlock∧some k_≠(s_.2.2.1:Value).ownBlock) s_.1 ao)∧(Kd.R (Kd.int .u64) 48 w' w.heap.size (fun k_=>some k_≠(s_.1:Value).ownBlock∧some k_≠(s_.2.2.1:Value).ownBlock) s_.2.1 ap)∧(Kd.R (Kd.int .u64) 48 w' w.heap.size (fun k_=>some k_≠(s_.1:Value).ownBlock∧some k_≠(s_.2.1:Value).ownBlock) s_.2.2.1 aF)∧(w'.heap[ak]? = some (.cells #[.int .i64 ac,.slice am af.length an] 28 (0,0)))∧(w'.heap[al]? = some (.cells #[.bool false,.slice none 0 0] 43 (0,0)))∧(w'.heap[s_.2.2.2]? = some (.cells #[.bool false,.slice none 0 0] 43 (0,0)))∧(w.heap.size≤s_.2.2.2)∧(w.heap.size≤s_.2.2.2)∧(ak≠s_.2.2.2)∧(s_.2.2.2≠ak)∧(al≠s_.2.2.2)∧(s_.2.2.2≠al)∧(Below w.heap.size w w')) ?_ ?_
  rotate_left
  ·intro hCont
   refine two_ (i:=1) (j:=9) (Ni:=some 16) (Nj:=some 3) (bm_ 12 15) (bm_ 12 525) rfl rfl rfl rfl (two_of HT_.out Y0) X0 X0 (fun K hK=>?_) (fun K hK=>?_)
   ·skip
    refine kgo Tryz.func43 #[.agg #[.int .i64 ac,.slice am af.length an]] F0 rfl rfl ?_
    with_reducible refine(bits_u.calls k ac _ _ af au ao _ ?side1 ?side2 A4.out).mono ?_
    (case side1=>repeat (first|exact(Kd.C_below aM.out HB.out)|(with_reducible refine Kd.C_alloc ?_ _)|(with_reducible refine Kd.C_drewN ?_ _)|(with_reducible refine Kd.C_drew ?_)))
    (case side2=>exact aN.out)
    rintro e w12 ⟨aP,rfl,ho0,hb⟩
    refine⟨_,rfl,?_⟩
    have HO782:=Aside0.mk (Kd.R_lower ho0 (below_size (khu HB.out)));replace aa:=kbb aa hb;replace ab:=kbb ab hb;replace HB:=kbs HB hb
    (try clear hb);(try clear hb2);(try clear hk);(try clear hi);(try clear ho0)
    refine hK.out _ _ ⟨(blk_cell aa.out 0).trans rfl,(blk_cell aa.out 1).trans rfl⟩ (fun hHeld=>?_)
    clear hK K
    refine norm_ (a':=?_) ?_ ?_
    rotate_left
    ·show Act.put _ (some 16) _=_
     simp only[Act.put,kss,i64_w,i32_w]
     rfl
    refine two_ (i:=4) (j:=9) (Ni:=some 19) (Nj:=some 3) (bm_ 12 31) (bm_ 12 527) rfl rfl rfl rfl (two_of HT_.out Y0) X0 X0 (fun K hK=>?_) (fun K hK=>?_)
    ·skip
     refine kgo Tryz.func72 #[.int .i64 ac] F0 rfl rfl ?_
     with_reducible refine(bits_power.calls k ac av ap _ A5.out).mono ?_
     rintro e w13 ⟨aO,rfl,ho0,hb⟩
     refine⟨_,rfl,?_⟩
     have HO786:=Aside0.mk (Kd.R_lower (Kd.R_new' ho0 (Kd.R_lt (kru HO782.out))) (below_size (khu HB.out)));replace HO782:=Aside0.mk (Kd.R_elder' (kru HO782.out) (Kd.R_base ho0) hb);replace aa:=kbb aa hb;replace ab:=kbb ab hb;replace HB:=kbs HB hb
     (try clear hb);(try clear hb2);(try clear hk);(try clear hi);(try clear ho0)
     obtain⟨bb,bc,bd⟩:=Kd.R_slice HO782.out
     (first|subst bd|(injection bd with f1_ f2_ f3_;have f4_:=f1_.symm;have f5_:=f3_.symm;clear f1_ f2_ f3_;subst f4_;subst f5_))
     obtain⟨ay,az,aA⟩:=Kd.R_slice HO786.out
     (first|subst aA|(injection aA with f1_ f2_ f3_;have f4_:=f1_.symm;have f5_:=f3_.symm;clear f1_ f2_ f3_;subst f4_;subst f5_))
     refine hK.out _ _ ⟨(blk_cell aa.out 0).trans rfl,(blk_cell aa.out 1).trans rfl⟩ (fun hHeld=>?_)
     clear hK K
     refine norm_ (a':=?_) ?_ ?_
     rotate_left
     ·show Act.put _ (some 19) _=_
      simp only[Act.put,kss,i64_w,i32_w]
      rfl
     refine two_ (i:=5) (j:=9) (Ni:=some 20) (Nj:=some 3) (bm_ 12 63) (bm_ 12 543) rfl rfl rfl rfl (two_of HT_.out Y0) X0 X0 (fun K hK=>?_) (fun K hK=>?_)
     ·skip
      refine kgo Tryz.func89 #[.agg #[.bool au,.slice bb ao.length bc],.agg #[.bool av,.slice ay ap.length az]] F0 rfl rfl ?_
      with_reducible refine(whole_Sub.calls k au _ _ ao av _ _ ap aw aF aL _ ?side1 ?side2 ?side3 ?side4 A6.out).mono ?_
      (case side1=>repeat (first|exact(Kd.R_reads' HO782.out).2.2|(with_reducible refine Kd.C_alloc ?_ _)|(with_reducible refine Kd.C_drewN ?_ _)|(with_reducible refine Kd.C_drew ?_)))
      (case side2=>exact(Kd.R_reads' HO782.out).2.1)
      (case side3=>repeat (first|exact(Kd.R_reads' HO786.out).2.2|(with_reducible refine Kd.C_alloc ?_ _)|(with_reducible refine Kd.C_drewN ?_ _)|(with_reducible refine Kd.C_drew ?_)))
      (case side4=>exact(Kd.R_reads' HO786.out).2.1)
      rintro e w16 ⟨aB,rfl,ho0,hb⟩
      refine⟨_,rfl,?_⟩
      have HO790:=Aside0.mk (Kd.R_lower (Kd.R_new' (Kd.R_new' ho0 (Kd.R_lt (kru HO782.out))) (Kd.R_lt (kru HO786.out))) (below_size (khu HB.out)));replace HO782:=Aside0.mk (Kd.R_elder' (kru HO782.out) (Kd.R_base ho0) hb);replace HO786:=Aside0.mk (Kd.R_elder' (kru HO786.out) (Kd.R_base ho0) hb);replace aa:=kbb aa hb;replace ab:=kbb ab hb;replace HB:=kbs HB hb
      (try clear hb);(try clear hb2);(try clear hk);(try clear hi);(try clear ho0)
      refine hK.out _ _ ⟨(blk_cell aa.out 0).trans rfl,(blk_cell aa.out 1).trans rfl⟩ (fun hHeld=>?_)
      clear hK K
      refine norm_ (a':=?_) ?_ ?_
      rotate_left
      ·show Act.put _ (some 20) _=_
       simp only[Act.put,kss,i64_w,i32_w]
       rfl
      refine pu_ 6 14 ?_ (bm_ 12 127) rfl rfl (any_of HT_.out Y0) (fun _ _ _ h=>h) F0 ?_ ?_ ?_ ?_
      rotate_left
      ·intro w'
       go_simp
       with_reducible rfl
      rotate_left
      ·simp only[Act.put,kss,i64_w,i32_w]
       rfl
      refine pu_ 7 21 ?_ (bm_ 12 255) rfl rfl (any_of HT_.out Y0) (fun _ _ _ h=>h) F0 ?_ ?_ ?_ ?_
      rotate_left
      ·intro w'
       go_simp
       with_reducible rfl
      rotate_left
      ·simp only[Act.put,kss,i64_w,i32_w]
       rfl
      refine pu_ 8 22 ?_ (bm_ 12 511) rfl rfl (any_of HT_.out Y0) (fun _ _ _ h=>h) F0 ?_ ?_ ?_ ?_
      rotate_left
      ·intro w'
       go_simp
       with_reducible rfl
      rotate_left
      ·simp only[Act.put,kss,i64_w,i32_w]
       rfl
      refine one_ (i:=9) (N:=some 3) (bm_ 12 1023) rfl rfl (one_of HT_.out Y0) X0 (fun K hK=>?_)
      refine box_step ?hg (N:=3) ?hd (cs:=#[.bool false,.slice none 0 0]) (t:=43) ?hr ?_;(case hd=>rfl);(case hg=>rfl);(case hr=>first|(go_simp;done)|(go_simp;rfl))
      intro ag hg w17 hbox hb
      replace HO782:=krb HO782 hb;replace HO786:=krb HO786 hb;replace HO790:=krb HO790 hb;have ad:=Aside0.mk (hbox);have aE:=kbz hg HB;have ax:=kbz hg HB;replace HB:=kbs HB hb;have ae:=knl hg aa;have ai:=kng hg aa;replace aa:=kbb aa hb;have ah:=knl hg ab;have aj:=kng hg ab;replace ab:=kbb ab hb
      clear hb hbox hg
      refine hK.out _ _ ⟨(blk_cell aa.out 0).trans rfl,(blk_cell aa.out 1).trans rfl⟩ (fun hHeld=>?_)
      clear hK K
      refine norm_ (a':=?_) ?_ ?_
      rotate_left
      ·show Act.put _ (some 3) _=_
       simp only[Act.put,kss,i64_w,i32_w]
       rfl
      exact norm_ F3 (hCont (.slice bb ao.length bc,.slice ay ap.length az,aB,ag) _ ⟨hHeld,F2,J2,U2,(kbu aa.out),(kbu ab.out),(kbu ad.out),aE.out,ax.out,ae.out,ai.out,ah.out,aj.out,(khu HB.out)⟩)
     skip
     refine box_step ?hg (N:=3) ?hd (cs:=#[.bool false,.slice none 0 0]) (t:=43) ?hr ?_;(case hd=>rfl);(case hg=>rfl);(case hr=>first|(go_simp;done)|(go_simp;rfl))
     intro ag hg w14 hbox hb
     replace HO782:=krb HO782 hb;replace HO786:=krb HO786 hb;have ad:=Aside0.mk (hbox);have aE:=kbz hg HB;have ax:=kbz hg HB;replace HB:=kbs HB hb;have ae:=knl hg aa;have ai:=kng hg aa;replace aa:=kbb aa hb;have ah:=knl hg ab;have aj:=kng hg ab;replace ab:=kbb ab hb
     clear hb hbox hg
     obtain⟨ay,az,aA⟩:=Kd.R_slice HO782.out
     (first|subst aA|(injection aA with f1_ f2_ f3_;have f4_:=f1_.symm;have f5_:=f3_.symm;clear f1_ f2_ f3_;subst f4_;subst f5_))
     obtain⟨aI,aJ,aK⟩:=Kd.R_slice HO786.out
     (first|subst aK|(injection aK with f1_ f2_ f3_;have f4_:=f1_.symm;have f5_:=f3_.symm;clear f1_ f2_ f3_;subst f4_;subst f5_))
     refine hK.out _ _ ⟨(blk_cell aa.out 0).trans rfl,(blk_cell aa.out 1).trans rfl⟩ (fun hHeld=>?_)
     clear hK K
     refine norm_ (a':=?_) ?_ ?_
     rotate_left
     ·show Act.put _ (some 3) _=_
      simp only[Act.put,kss,i64_w,i32_w]
      rfl
     refine one_ (i:=5) (N:=some 20) (bm_ 12 575) rfl rfl (one_of HT_.out Y0) X0 (fun K hK=>?_)
     refine kgo Tryz.func89 #[.agg #[.bool au,.slice ay ao.length az],.agg #[.bool av,.slice aI ap.length aJ]] F0 rfl rfl ?_
     with_reducible refine(whole_Sub.calls k au _ _ ao av _ _ ap aw aF aL _ ?side1 ?side2 ?side3 ?side4 A6.out).mono ?_
     (case side1=>repeat (first|exact(Kd.R_reads' HO782.out).2.2|(with_reducible refine Kd.C_alloc ?_ _)|(with_reducible refine Kd.C_drewN ?_ _)|(with_reducible refine Kd.C_drew ?_)))
     (case side2=>exact(Kd.R_reads' HO782.out).2.1)
     (case side3=>repeat (first|exact(Kd.R_reads' HO786.out).2.2|(with_reducible refine Kd.C_alloc ?_ _)|(with_reducible refine Kd.C_drewN ?_ _)|(with_reducible refine Kd.C_drew ?_)))
     (case side4=>exact(Kd.R_reads' HO786.out).2.1)
     rintro e w17 ⟨aB,rfl,ho0,hb⟩
     refine⟨_,rfl,?_⟩
     have HO790:=Aside0.mk (Kd.R_lower (Kd.R_new' (Kd.R_new' ho0 (Kd.R_lt (kru HO782.out))) (Kd.R_lt (kru HO786.out))) (below_size (khu HB.out)));replace HO782:=Aside0.mk (Kd.R_elder' (kru HO782.out) (Kd.R_base ho0) hb);replace HO786:=Aside0.mk (Kd.R_elder' (kru HO786.out) (Kd.R_base ho0) hb);replace aa:=kbb aa hb;replace ab:=kbb ab hb;replace ad:=kbb ad hb;replace HB:=kbs HB hb
     (try clear hb);(try clear hb2);(try clear hk);(try clear hi);(try clear ho0)
     refine hK.out _ _ ⟨(blk_cell aa.out 0).trans rfl,(blk_cell aa.out 1).trans rfl⟩ (fun hHeld=>?_)
     clear hK K
     refine norm_ (a':=?_) ?_ ?_
     rotate_left
     ·show Act.put _ (some 20) _=_
      simp only[Act.put,kss,i64_w,i32_w]
      rfl
     refine pu_ 6 14 ?_ (bm_ 12 639) rfl rfl (any_of HT_.out Y0) (fun _ _ _ h=>h) F0 ?_ ?_ ?_ ?_
     rotate_left
     ·intro w'
      go_simp
      with_reducible rfl
     rotate_left
     ·simp only[Act.put,kss,i64_w,i32_w]
      rfl
     refine pu_ 7 21 ?_ (bm_ 12 767) rfl rfl (any_of HT_.out Y0) (fun _ _ _ h=>h) F0 ?_ ?_ ?_ ?_
     rotate_left
     ·intro w'
      go_simp
      with_reducible rfl
     rotate_left
     ·simp only[Act.put,kss,i64_w,i32_w]
      rfl
     refine pu_ 8 22 ?_ (bm_ 12 1023) rfl rfl (any_of HT_.out Y0) (fun _ _ _ h=>h) F0 ?_ ?_ ?_ ?_
     rotate_left
     ·intro w'
      go_simp
      with_reducible rfl
     rotate_left
     ·simp only[Act.put,kss,i64_w,i32_w]
      rfl
     exact norm_ F3 (hCont (.slice ay ao.length az,.slice aI ap.length aJ,aB,ag) _ ⟨hHeld,F2,J2,U2,(kbu aa.out),(kbu ab.out),(kbu ad.out),aE.out,ax.out,ae.out,ai.out,ah.out,aj.out,(khu HB.out)⟩)
    skip
    refine box_step ?hg (N:=3) ?hd (cs:=#[.bool false,.slice none 0 0]) (t:=43) ?hr ?_;(case hd=>rfl);(case hg=>rfl);(case hr=>first|(go_simp;done)|(go_simp;rfl))
    intro ag hg w13 hbox hb
    replace HO782:=krb HO782 hb;have ad:=Aside0.mk (hbox);have aE:=kbz hg HB;have ax:=kbz hg HB;replace HB:=kbs HB hb;have ae:=knl hg aa;have ai:=kng hg aa;replace aa:=kbb aa hb;have ah:=knl hg ab;have aj:=kng hg ab;replace ab:=kbb ab hb
    clear hb hbox hg
    refine hK.out _ _ ⟨(blk_cell aa.out 0).trans rfl,(blk_cell aa.out 1).trans rfl⟩ (fun hHeld=>?_)
    clear hK K
    refine norm_ (a':=?_) ?_ ?_
    rotate_left
    ·show Act.put _ (some 3) _=_
     simp only[Act.put,kss,i64_w,i32_w]
     rfl
    refine one_ (i:=4) (N:=some 19) (bm_ 12 543) rfl rfl (one_of HT_.out Y0) X0 (fun K hK=>?_)
    refine kgo Tryz.func72 #[.int .i64 ac] F0 rfl rfl ?_
    with_reducible refine(bits_power.calls k ac av ap _ A5.out).mono ?_
    rintro e w14 ⟨aO,rfl,ho0,hb⟩
    refine⟨_,rfl,?_⟩
    have HO786:=Aside0.mk (Kd.R_lower (Kd.R_new' ho0 (Kd.R_lt (kru HO782.out))) (below_size (khu HB.out)));replace HO782:=Aside0.mk (Kd.R_elder' (kru HO782.out) (Kd.R_base ho0) hb);replace aa:=kbb aa hb;replace ab:=kbb ab hb;replace ad:=kbb ad hb;replace HB:=kbs HB hb
    (try clear hb);(try clear hb2);(try clear hk);(try clear hi);(try clear ho0)
    obtain⟨ay,az,aA⟩:=Kd.R_slice HO782.out
    (first|subst aA|(injection aA with f1_ f2_ f3_;have f4_:=f1_.symm;have f5_:=f3_.symm;clear f1_ f2_ f3_;subst f4_;subst f5_))
    obtain⟨aI,aJ,aK⟩:=Kd.R_slice HO786.out
    (first|subst aK|(injection aK with f1_ f2_ f3_;have f4_:=f1_.symm;have f5_:=f3_.symm;clear f1_ f2_ f3_;subst f4_;subst f5_))
    refine hK.out _ _ ⟨(blk_cell aa.out 0).trans rfl,(blk_cell aa.out 1).trans rfl⟩ (fun hHeld=>?_)
    clear hK K
    refine norm_ (a':=?_) ?_ ?_
    rotate_left
    ·show Act.put _ (some 19) _=_
     simp only[Act.put,kss,i64_w,i32_w]
     rfl
    refine one_ (i:=5) (N:=some 20) (bm_ 12 575) rfl rfl (one_of HT_.out Y0) X0 (fun K hK=>?_)
    refine kgo Tryz.func89 #[.agg #[.bool au,.slice ay ao.length az],.agg #[.bool av,.slice aI ap.length aJ]] F0 rfl rfl ?_
    with_reducible refine(whole_Sub.calls k au _ _ ao av _ _ ap aw aF aL _ ?side1 ?side2 ?side3 ?side4 A6.out).mono ?_
    (case side1=>repeat (first|exact(Kd.R_reads' HO782.out).2.2|(with_reducible refine Kd.C_alloc ?_ _)|(with_reducible refine Kd.C_drewN ?_ _)|(with_reducible refine Kd.C_drew ?_)))
    (case side2=>exact(Kd.R_reads' HO782.out).2.1)
    (case side3=>repeat (first|exact(Kd.R_reads' HO786.out).2.2|(with_reducible refine Kd.C_alloc ?_ _)|(with_reducible refine Kd.C_drewN ?_ _)|(with_reducible refine Kd.C_drew ?_)))
    (case side4=>exact(Kd.R_reads' HO786.out).2.1)
    rintro e w17 ⟨aB,rfl,ho0,hb⟩
    refine⟨_,rfl,?_⟩
    have HO790:=Aside0.mk (Kd.R_lower (Kd.R_new' (Kd.R_new' ho0 (Kd.R_lt (kru HO782.out))) (Kd.R_lt (kru HO786.out))) (below_size (khu HB.out)));replace HO782:=Aside0.mk (Kd.R_elder' (kru HO782.out) (Kd.R_base ho0) hb);replace HO786:=Aside0.mk (Kd.R_elder' (kru HO786.out) (Kd.R_base ho0) hb);replace aa:=kbb aa hb;replace ab:=kbb ab hb;replace ad:=kbb ad hb;replace HB:=kbs HB hb
    (try clear hb);(try clear hb2);(try clear hk);(try clear hi);(try clear ho0)
    refine hK.out _ _ ⟨(blk_cell aa.out 0).trans rfl,(blk_cell aa.out 1).trans rfl⟩ (fun hHeld=>?_)
    clear hK K
    refine norm_ (a':=?_) ?_ ?_
    rotate_left
    ·show Act.put _ (some 20) _=_
     simp only[Act.put,kss,i64_w,i32_w]
     rfl
    refine pu_ 6 14 ?_ (bm_ 12 639) rfl rfl (any_of HT_.out Y0) (fun _ _ _ h=>h) F0 ?_ ?_ ?_ ?_
    rotate_left
    ·intro w'
     go_simp
     with_reducible rfl
    rotate_left
    ·simp only[Act.put,kss,i64_w,i32_w]
     rfl
    refine pu_ 7 21 ?_ (bm_ 12 767) rfl rfl (any_of HT_.out Y0) (fun _ _ _ h=>h) F0 ?_ ?_ ?_ ?_
    rotate_left
    ·intro w'
     go_simp
     with_reducible rfl
    rotate_left
    ·simp only[Act.put,kss,i64_w,i32_w]
     rfl
    refine pu_ 8 22 ?_ (bm_ 12 1023) rfl rfl (any_of HT_.out Y0) (fun _ _ _ h=>h) F0 ?_ ?_ ?_ ?_
    rotate_left
    ·intro w'
     go_simp
     with_reducible rfl
    rotate_left
    ·simp only[Act.put,kss,i64_w,i32_w]
     rfl
    exact norm_ F3 (hCont (.slice ay ao.length az,.slice aI ap.length aJ,aB,ag) _ ⟨hHeld,F2,J2,U2,(kbu aa.out),(kbu ab.out),(kbu ad.out),aE.out,ax.out,ae.out,ai.out,ah.out,aj.out,(khu HB.out)⟩)
   skip
   refine box_step ?hg (N:=3) ?hd (cs:=#[.bool false,.slice none 0 0]) (t:=43) ?hr ?_;(case hd=>rfl);(case hg=>rfl);(case hr=>first|(go_simp;done)|(go_simp;rfl))
   intro ag hg w12 hbox hb
   have ad:=Aside0.mk (hbox);have aE:=kbz hg HB;have ax:=kbz hg HB;replace HB:=kbs HB hb;have ae:=knl hg aa;have ai:=kng hg aa;replace aa:=kbb aa hb;have ah:=knl hg ab;have aj:=kng hg ab;replace ab:=kbb ab hb
   clear hb hbox hg
   refine hK.out _ _ ⟨(blk_cell aa.out 0).trans rfl,(blk_cell aa.out 1).trans rfl⟩ (fun hHeld=>?_)
   clear hK K
   refine norm_ (a':=?_) ?_ ?_
   rotate_left
   ·show Act.put _ (some 3) _=_
    simp only[Act.put,kss,i64_w,i32_w]
    rfl
   refine one_ (i:=1) (N:=some 16) (bm_ 12 527) rfl rfl (one_of HT_.out Y0) X0 (fun K hK=>?_)
   refine kgo Tryz.func43 #[.agg #[.int .i64 ac,.slice am af.length an]] F0 rfl rfl ?_
   with_reducible refine(bits_u.calls k ac _ _ af au ao _ ?side1 ?side2 A4.out).mono ?_
   (case side1=>repeat (first|exact(Kd.C_below aM.out HB.out)|(with_reducible refine Kd.C_alloc ?_ _)|(with_reducible refine Kd.C_drewN ?_ _)|(with_reducible refine Kd.C_drew ?_)))
   (case side2=>exact aN.out)
   rintro e w13 ⟨aP,rfl,ho0,hb⟩
   refine⟨_,rfl,?_⟩
   have HO782:=Aside0.mk (Kd.R_lower ho0 (below_size (khu HB.out)));replace aa:=kbb aa hb;replace ab:=kbb ab hb;replace ad:=kbb ad hb;replace HB:=kbs HB hb
   (try clear hb);(try clear hb2);(try clear hk);(try clear hi);(try clear ho0)
   refine hK.out _ _ ⟨(blk_cell aa.out 0).trans rfl,(blk_cell aa.out 1).trans rfl⟩ (fun hHeld=>?_)
   clear hK K
   refine norm_ (a':=?_) ?_ ?_
   rotate_left
   ·show Act.put _ (some 16) _=_
    simp only[Act.put,kss,i64_w,i32_w]
    rfl
   refine one_ (i:=4) (N:=some 19) (bm_ 12 543) rfl rfl (one_of HT_.out Y0) X0 (fun K hK=>?_)
   refine kgo Tryz.func72 #[.int .i64 ac] F0 rfl rfl ?_
   with_reducible refine(bits_power.calls k ac av ap _ A5.out).mono ?_
   rintro e w14 ⟨aO,rfl,ho0,hb⟩
   refine⟨_,rfl,?_⟩
   have HO786:=Aside0.mk (Kd.R_lower (Kd.R_new' ho0 (Kd.R_lt (kru HO782.out))) (below_size (khu HB.out)));replace HO782:=Aside0.mk (Kd.R_elder' (kru HO782.out) (Kd.R_base ho0) hb);replace aa:=kbb aa hb;replace ab:=kbb ab hb;replace ad:=kbb ad hb;replace HB:=kbs HB hb
   (try clear hb);(try clear hb2);(try clear hk);(try clear hi);(try clear ho0)
   obtain⟨ay,az,aA⟩:=Kd.R_slice HO782.out
   (first|subst aA|(injection aA with f1_ f2_ f3_;have f4_:=f1_.symm;have f5_:=f3_.symm;clear f1_ f2_ f3_;subst f4_;subst f5_))
   obtain⟨aI,aJ,aK⟩:=Kd.R_slice HO786.out
   (first|subst aK|(injection aK with f1_ f2_ f3_;have f4_:=f1_.symm;have f5_:=f3_.symm;clear f1_ f2_ f3_;subst f4_;subst f5_))
   refine hK.out _ _ ⟨(blk_cell aa.out 0).trans rfl,(blk_cell aa.out 1).trans rfl⟩ (fun hHeld=>?_)
   clear hK K
   refine norm_ (a':=?_) ?_ ?_
   rotate_left
   ·show Act.put _ (some 19) _=_
    simp only[Act.put,kss,i64_w,i32_w]
    rfl
   refine one_ (i:=5) (N:=some 20) (bm_ 12 575) rfl rfl (one_of HT_.out Y0) X0 (fun K hK=>?_)
   refine kgo Tryz.func89 #[.agg #[.bool au,.slice ay ao.length az],.agg #[.bool av,.slice aI ap.length aJ]] F0 rfl rfl ?_
   with_reducible refine(whole_Sub.calls k au _ _ ao av _ _ ap aw aF aL _ ?side1 ?side2 ?side3 ?side4 A6.out).mono ?_
   (case side1=>repeat (first|exact(Kd.R_reads' HO782.out).2.2|(with_reducible refine Kd.C_alloc ?_ _)|(with_reducible refine Kd.C_drewN ?_ _)|(with_reducible refine Kd.C_drew ?_)))
   (case side2=>exact(Kd.R_reads' HO782.out).2.1)
   (case side3=>repeat (first|exact(Kd.R_reads' HO786.out).2.2|(with_reducible refine Kd.C_alloc ?_ _)|(with_reducible refine Kd.C_drewN ?_ _)|(with_reducible refine Kd.C_drew ?_)))
   (case side4=>exact(Kd.R_reads' HO786.out).2.1)
   rintro e w17 ⟨aB,rfl,ho0,hb⟩
   refine⟨_,rfl,?_⟩
   have HO790:=Aside0.mk (Kd.R_lower (Kd.R_new' (Kd.R_new' ho0 (Kd.R_lt (kru HO782.out))) (Kd.R_lt (kru HO786.out))) (below_size (khu HB.out)));replace HO782:=Aside0.mk (Kd.R_elder' (kru HO782.out) (Kd.R_base ho0) hb);replace HO786:=Aside0.mk (Kd.R_elder' (kru HO786.out) (Kd.R_base ho0) hb);replace aa:=kbb aa hb;replace ab:=kbb ab hb;replace ad:=kbb ad hb;replace HB:=kbs HB hb
   (try clear hb);(try clear hb2);(try clear hk);(try clear hi);(try clear ho0)
   refine hK.out _ _ ⟨(blk_cell aa.out 0).trans rfl,(blk_cell aa.out 1).trans rfl⟩ (fun hHeld=>?_)
   clear hK K
   refine norm_ (a':=?_) ?_ ?_
   rotate_left
   ·show Act.put _ (some 20) _=_
    simp only[Act.put,kss,i64_w,i32_w]
    rfl
   refine pu_ 6 14 ?_ (bm_ 12 639) rfl rfl (any_of HT_.out Y0) (fun _ _ _ h=>h) F0 ?_ ?_ ?_ ?_
   rotate_left
   ·intro w'
    go_simp
    with_reducible rfl
   rotate_left
   ·simp only[Act.put,kss,i64_w,i32_w]
    rfl
   refine pu_ 7 21 ?_ (bm_ 12 767) rfl rfl (any_of HT_.out Y0) (fun _ _ _ h=>h) F0 ?_ ?_ ?_ ?_
   rotate_left
   ·intro w'
    go_simp
    with_reducible rfl
   rotate_left
   ·simp only[Act.put,kss,i64_w,i32_w]
    rfl
   refine pu_ 8 22 ?_ (bm_ 12 1023) rfl rfl (any_of HT_.out Y0) (fun _ _ _ h=>h) F0 ?_ ?_ ?_ ?_
   rotate_left
   ·intro w'
    go_simp
    with_reducible rfl
   rotate_left
   ·simp only[Act.put,kss,i64_w,i32_w]
    rfl
   exact norm_ F3 (hCont (.slice ay ao.length az,.slice aI ap.length aJ,aB,ag) _ ⟨hHeld,F2,J2,U2,(kbu aa.out),(kbu ab.out),(kbu ad.out),aE.out,ax.out,ae.out,ai.out,ah.out,aj.out,(khu HB.out)⟩)
  rintro⟨aP,aO,aB,ag⟩ w18 ⟨hS_,h0_,h1_,h2_,h3_,h4_,h5_,h6_,h7_,h8_,h9_,h10_,h11_,h12_⟩
  have n0_:Aside0 (Kd.R (Kd.int .u64) 48 w18 w.heap.size (fun k_=>some k_≠(aO:Value).ownBlock∧some k_≠(aB:Value).ownBlock) aP ao):=⟨h0_⟩
  have n1_:Aside0 (Kd.R (Kd.int .u64) 48 w18 w.heap.size (fun k_=>some k_≠(aP:Value).ownBlock∧some k_≠(aB:Value).ownBlock) aO ap):=⟨h1_⟩
  have n2_:Aside0 (Kd.R (Kd.int .u64) 48 w18 w.heap.size (fun k_=>some k_≠(aP:Value).ownBlock∧some k_≠(aO:Value).ownBlock) aB aF):=⟨h2_⟩
  have n3_:Aside0 (w18.heap[ak]? = some (.cells #[.int .i64 ac,.slice am af.length an] 28 (0,0))):=⟨h3_⟩
  have n4_:Aside0 (w18.heap[al]? = some (.cells #[.bool false,.slice none 0 0] 43 (0,0))):=⟨h4_⟩
  have n5_:Aside0 (w18.heap[ag]? = some (.cells #[.bool false,.slice none 0 0] 43 (0,0))):=⟨h5_⟩
  have n6_:Aside0 (w.heap.size≤ag):=⟨h6_⟩
  have n7_:Aside0 (w.heap.size≤ag):=⟨h7_⟩
  have n8_:Aside0 (ak≠ag):=⟨h8_⟩
  have n9_:Aside0 (ag≠ak):=⟨h9_⟩
  have n10_:Aside0 (al≠ag):=⟨h10_⟩
  have n11_:Aside0 (ag≠al):=⟨h11_⟩
  have n12_:Aside0 (Below w.heap.size w w18):=⟨h12_⟩
  clear aa
  clear ab
  clear HB
  clear h0_ h1_ h2_ h3_ h4_ h5_ h6_ h7_ h8_ h9_ h10_ h11_ h12_
  have HO782:=n0_
  have HO786:=n1_
  have HO790:=n2_
  have aa:=n3_
  have ab:=n4_
  have ad:=n5_
  have aE:=n6_
  have ax:=n7_
  have ae:=n8_
  have ai:=n9_
  have ah:=n10_
  have aj:=n11_
  have HB:=n12_
  clear n0_ n1_ n2_ n3_ n4_ n5_ n6_ n7_ n8_ n9_ n10_ n11_ n12_
  have hHeld:w18.cell? ⟨ak,0,none⟩=some (.int .i64 ac)∧w18.cell? ⟨ak,1,none⟩=some (.slice am af.length an):=hS_
  obtain⟨aV,aW,be⟩:=Kd.R_slice HO790.out
  (first|subst be|(injection be with f1_ f2_ f3_;have f4_:=f1_.symm;have f5_:=f3_.symm;clear f1_ f2_ f3_;subst f4_;subst f5_))
  refine norm_ (a':=?_) ?_ ?_
  rotate_left
  ·simp only[putAll,Act.put,kss]
   rfl
  refine one_ (i:=10) (N:=none) (bm_ 12 2047) rfl rfl (one_of HT_.out Y0) X0 (fun K hK=>?_)
  have ch:w18.cell? ⟨ag,0,none⟩=some (.bool false):=(blk_cell ad.out 0).trans rfl
  have bR:=blk_frozen ad.out 0
  have bq:=ae.out
  have br:=ah.out
  have bu:=ai.out
  have bv:=aj.out
  have ci:w18.cell? ⟨ag,1,none⟩=some (.slice none 0 0):=(blk_cell ad.out 1).trans rfl
  have bS:=blk_frozen ad.out 1
  have bw:=ae.out
  have bx:=ah.out
  have bz:=ai.out
  have bA:=aj.out
  refine skip_ (w1:=?_) F0 rfl ?_ ?_
  rotate_left
  ·go_simp
   rfl
  refine hK.out _ _ ⟨((cell_far (p:=⟨ag,_,none⟩) ae.out _).trans (((cell_far (p:=⟨ag,_,none⟩) ae.out _).trans (hHeld.1)))),((cell_far (p:=⟨ag,_,none⟩) ae.out _).trans (((cell_far (p:=⟨ag,_,none⟩) ae.out _).trans (hHeld.2))))⟩ (fun hHeld=>?_)
  clear hK K
  refine pu_ 11 4 ?_ (bm_ 12 4095) rfl rfl (any_of HT_.out Y0) (fun _ _ _ h=>h) F0 ?_ ?_ ?_ ?_
  rotate_left
  ·intro w'
   go_simp
   with_reducible rfl
  rotate_left
  ·simp only[Act.put,kss,i64_w,i32_w]
   rfl
  refine done_ (done_of HT_.out Y0) ?_
  have bT:=ai.out
  have bU:=ae.out
  have bV:=aj.out
  have bW:=ah.out
  have bB:w18.cell? ⟨ag,0,none⟩=some (.bool false):=(blk_cell ad.out 0).trans rfl
  have bC:w18.cell? ⟨ag,1,none⟩=some (.slice none 0 0):=(blk_cell ad.out 1).trans rfl
  have bD:=blk_frozen ad.out 0
  have bE:=blk_frozen ad.out 1
  have bF:w18.cell? ⟨al,0,none⟩=some (.bool false):=(blk_cell ab.out 0).trans rfl
  have bG:w18.cell? ⟨al,1,none⟩=some (.slice none 0 0):=(blk_cell ab.out 1).trans rfl
  have bH:=blk_frozen ab.out 0
  have bI:=blk_frozen ab.out 1
  try go_wp2
  refine bodyPost_ret (results_cell_row rfl _ _ al 43 #[.bool aw,.slice aV aF.length aW] (0,0) _ rfl (kpu #[.bool aw,.slice none 0 0] 1 (kpu #[.bool false,.slice none 0 0] 0 (kfa ah (kfa ah (kbu ab.out))))) Tryz.underlying43 rfl Y0) rfl ?_
  exact⟨_,D0,by(with_reducible repeat (first|apply Kd.R_alloc|apply Kd.R_drewN|apply Kd.R_drew));exact Kd.R_mono (Kd.R_far (p:=⟨al,1,none⟩) (Kd.R_far (p:=⟨al,0,none⟩) (Kd.R_far (p:=⟨ag,1,none⟩) (Kd.R_far (p:=⟨ag,0,none⟩) (Kd.R_types (Kd.R_types HO790.out ad.out X0) ab.out X0) (fun _ hk=>hk.1.2) (.bool aw)) (fun _ hk=>hk.1.2) (.slice aV aF.length aW)) (fun _ hk=>hk.2) (.bool aw)) (fun _ hk=>hk.2) (.slice aV aF.length aW)) (fun _ hk=>trivial),by repeat (first|(with_reducible first|exact HB.out|apply below_alloc|apply pw_below_drewN|apply below_drew1|refine below_set ?_ aS.out|refine below_set ?_ aT.out|refine below_set ?_ ax.out)|exact HB.out)⟩
 replace c3:=Bool.eq_false_iff.mpr c3
 subst c3
 have H1:((bits_u.f k ac af).bind fun aD=>(some (aD.1,aD.2)))=some (r1,r2):=by rw[if_neg (show ¬(false=true) by decide)]at H;exact H
 clear H
 have H:=H1
 clear H1
 replace H:=Option.bind_eq_some_iff.mp H
 obtain⟨⟨aQ,aU⟩,bf,H⟩:=H
 replace H:(some (aQ,aU))=some (r1,r2):=H
 have A26:=Aside0.mk bf
 clear bf
 simp only[Option.some.injEq,Prod.mk.injEq]at H
 obtain⟨rfl,rfl⟩:=H
 go_enter Tryz.func44,Tryz.ntmps44
 go_wp2_with (first|(refine gd 1 rfl ?_;refine kbe 1 #[.int .i64 ac,.slice am af.length an] 28 ?_;intro ak hg w27 hbox hb;have aa:=Aside0.mk (hbox);have bi:=kbz hg HB;have aS:=kbz hg HB;replace HB:=kbs HB hb;clear hb hbox hg)|(refine gd 2 rfl ?_;refine kbe 2 #[.bool false,.slice none 0 0] 43 ?_;intro al hg w28 hbox hb;have ab:=Aside0.mk (hbox);have bj:=kbz hg HB;have aT:=kbz hg HB;replace HB:=kbs HB hb;have aG:=knl hg aa;have aH:=kng hg aa;replace aa:=kbb aa hb;clear hb hbox hg;have bX:=aG.out;have bY:=aH.out;have bJ:w28.cell? ⟨ak,0,none⟩=some (.int .i64 ac):=(blk_cell aa.out 0).trans rfl;have bK:w28.cell? ⟨ak,1,none⟩=some (.slice am af.length an):=(blk_cell aa.out 1).trans rfl;have bL:=blk_frozen aa.out 0;have bM:=blk_frozen aa.out 1)|((with_reducible refine gate_callee (f:=88) rfl ?_);refine kgl (some 10) rfl rfl Tryz.func88 #[.slice am af.length an,.int .i64 (wrap64 (ac-1))] rfl ?_;(with_reducible refine(nat_Bit.calls _ _ af (wrap64 (ac-1)) false _ ?side1 ?side2 A2.out).mono ?_);(case side1=>repeat (first|exact(Kd.C_below aM.out HB.out)|(with_reducible refine Kd.C_alloc ?_ _)|(with_reducible refine Kd.C_drewN ?_ _)|(with_reducible refine Kd.C_drew ?_)));(case side2=>exact aN.out);rintro e w' ⟨rfl,⟨nd,rfl⟩⟩;refine⟨_,rfl,?_⟩;(try(rw[drewN_self w28];generalize hq_:World.drewN w28 _=w28;have n0_:Aside0 (w28.heap[ak]? = some (.cells #[.int .i64 ac,.slice am af.length an] 28 (0,0))):=⟨by rw[←hq_];exact(kbu aa.out)⟩;have n1_:Aside0 (w28.heap[al]? = some (.cells #[.bool false,.slice none 0 0] 43 (0,0))):=⟨by rw[←hq_];exact(kbu ab.out)⟩;have n2_:Aside0 (Below w.heap.size w w28):=⟨by rw[←hq_];exact(khu HB.out)⟩;clear aa ab HB hq_;have aa:=n0_;have ab:=n1_;have HB:=n2_;clear n0_ n1_ n2_));have bZ:=(blk_cell aa.out 0).trans (show _=some (Value.int .i64 ac) from rfl);have ca:=(blk_cell aa.out 1).trans (show _=some (Value.slice am af.length an) from rfl);have cb:=blk_frozen aa.out 0;have cc:=blk_frozen aa.out 1)|((with_reducible refine gate_callee (f:=43) rfl ?_);refine kgl (some 13) rfl rfl Tryz.func43 #[.agg #[.int .i64 ac,.slice am af.length an]] rfl ?_;(with_reducible refine(bits_u.calls k ac _ _ af aQ aU _ ?side1 ?side2 A26.out).mono ?_);(case side1=>repeat (first|exact(Kd.C_below aM.out HB.out)|(with_reducible refine Kd.C_alloc ?_ _)|(with_reducible refine Kd.C_drewN ?_ _)|(with_reducible refine Kd.C_drew ?_)));(case side2=>exact aN.out);rintro e w31 ⟨cj,rfl,ho0,hb⟩;refine⟨_,rfl,?_⟩;have aZ:=Aside0.mk (Kd.R_lower ho0 (below_size (khu HB.out)));replace aa:=kbb aa hb;replace ab:=kbb ab hb;replace HB:=kbs HB hb;(try clear hb);(try clear hb2);(try clear hk);(try clear hi);(try clear ho0);have bN:w31.cell? ⟨al,0,none⟩=some (.bool false):=(blk_cell ab.out 0).trans rfl;have bO:w31.cell? ⟨al,1,none⟩=some (.slice none 0 0):=(blk_cell ab.out 1).trans rfl;have bP:=blk_frozen ab.out 0;have bQ:=blk_frozen ab.out 1;obtain⟨bg,bh,bk⟩:=Kd.R_slice aZ.out;subst bk))
 refine bodyPost_ret (results_cell_row rfl _ _ al 43 #[.bool aQ,.slice bg aU.length bh] (0,0) _ rfl (kpu #[.bool aQ,.slice none 0 0] 1 (kpu #[.bool false,.slice none 0 0] 0 (kbu ab.out))) Tryz.underlying43 rfl Y0) rfl ?_
 exact⟨_,D0,by(with_reducible repeat (first|apply Kd.R_alloc|apply Kd.R_drewN|apply Kd.R_drew));exact Kd.R_mono (Kd.R_far (p:=⟨al,1,none⟩) (Kd.R_far (p:=⟨al,0,none⟩) (Kd.R_types aZ.out ab.out X0) (fun _ hk=>hk.2) (.bool aQ)) (fun _ hk=>hk.2) (.slice bg aU.length bh)) (fun _ hk=>trivial),by repeat (first|(with_reducible first|exact HB.out|apply below_alloc|apply pw_below_drewN|apply below_drew1|refine below_set ?_ aS.out|refine below_set ?_ aT.out)|exact HB.out)⟩
def nat_Len.f (k:Nat) (l0:List Int):Option (Int):=(nat_trim.f k l0).bind fun t1104=>(if(t1104.length:Int)=0 then(some 0) else(if 0≤(wrap64 ((t1104.length:Int)-1)) then(if(wrap64 ((t1104.length:Int)-1))<(t1104.length:Int) then((bits_Len64.f (rd t1104 (wrap64 ((t1104.length:Int)-1)))).bind fun t1108=>(some (wrap64 ((wrap64 (64*(wrap64 ((t1104.length:Int)-1))))+t1108)))) else(none)) else(none)))
theorem nat_Len.mono:∀a0 k,LeO (nat_Len.f k a0) (nat_Len.f (k+1) a0):=by
 intro a0 k
 unfold nat_Len.f
 repeat' first
   | (with_reducible exact nat_trim.mono _ _)
   | (with_reducible exact LeO.refl _)
   | (with_reducible exact LeO.none _)
   | (with_reducible refine LeO.ite ?_ ?_)
   | (with_reducible refine LeO.bind ?_ (fun _=>?_))
   | exact nat_trim.mono _ _
   | exact LeO.none _
   | refine LeO.ite ?_ ?_
   | refine LeO.bind ?_ (fun _=>?_)
theorem nat_Len.calls (k:Nat) (A0:Option Addr) (c0:Nat) (l0:List Int) (r:Int) (w:World) (hr0:Kd.C (Kd.int .u64) w A0 l0.length l0) (hc0:l0.length≤c0) (h:nat_Len.f k l0=some r) :
  Calls Tryz.prog 53 #[.slice A0 l0.length c0] w fun e w'=>e=.returned (.int .i64 r)∧Below w.heap.size w w':=by
 have HR0:=Aside0.mk hr0
 have HC0:=Aside0.mk hc0
 clear hr0 hc0
 have HB:=Aside0.mk (Below.refl w.heap.size w)
 have H:((nat_trim.f k l0).bind fun aa=>(if(aa.length:Int)=0 then(some 0) else(if 0≤(wrap64 ((aa.length:Int)-1)) then(if(wrap64 ((aa.length:Int)-1))<(aa.length:Int) then((bits_Len64.f (rd aa (wrap64 ((aa.length:Int)-1)))).bind fun ab=>(some (wrap64 ((wrap64 (64*(wrap64 ((aa.length:Int)-1))))+ab)))) else(none)) else(none))))=some r:=h
 clear h
 replace H:=Option.bind_eq_some_iff.mp H
 obtain⟨aa,A20,H⟩:=H
 replace H:(if(aa.length:Int)=0 then(some 0) else(if 0≤(wrap64 ((aa.length:Int)-1)) then(if(wrap64 ((aa.length:Int)-1))<(aa.length:Int) then((bits_Len64.f (rd aa (wrap64 ((aa.length:Int)-1)))).bind fun ab=>(some (wrap64 ((wrap64 (64*(wrap64 ((aa.length:Int)-1))))+ab)))) else(none)) else(none)))=some r:=H
 have A2:=Aside0.mk A20
 clear A20
 by_cases c3:(aa.length:Int)=0
 ·rw[if_pos c3]at H
  have ai:((aa.length:Int)==0)=true:=beq_iff_eq.mpr c3
  have aj:((aa.length:Int) != 0)=false:=bne_eq_false_iff_eq.mpr c3
  clear c3
  obtain rfl:=Option.some.inj H
  go_enter Tryz.func53,Tryz.ntmps53
  go_wp2_with (first|((with_reducible refine gate_callee (f:=96) rfl ?_);refine kgl (some 4) rfl rfl Tryz.func96 #[.slice A0 l0.length c0] rfl ?_;(with_reducible refine(nat_trim.calls k (fun k_=>k_<w.heap.size) _ _ l0 aa _ ?side1 A2.out).mono ?_);(case side1=>exact Kd.V_mk HC0.out (Kd.F_below (Kd.C_F (Kd.heap_int .u64) HR0.out) (khu HB.out)));rintro e w4 ⟨ag,rfl,ho0,hb⟩;refine⟨_,rfl,?_⟩;have ac:=Aside0.mk (Kd.V_lower (Kd.V_mono (ok':=fun k_=>True) ho0 (fun k_ hk_=>trivial)) (below_size (khu HB.out)));replace HB:=kbs HB hb;(try clear hb);(try clear hb2);(try clear hk);(try clear hi);(try clear ho0);obtain⟨Ao5,co5,eo5⟩:=Kd.V_slice ac.out;subst eo5))
  go_ret
  exact⟨D0,khu HB.out⟩
 rw[if_neg c3]at H
 have ai:((aa.length:Int)==0)=false:=beq_eq_false_iff_ne.mpr c3
 have aj:((aa.length:Int) != 0)=true:=bne_iff_ne.mpr c3
 have ao:¬(aa=[]):=fun h_=>c3 (by rw[h_];rfl)
 obtain⟨ji6,ad⟩:∃j_:Int,(wrap64 ((aa.length:Int)-1))=j_:=⟨_,rfl⟩
 replace H:(if 0≤(ji6) then(if(ji6)<(aa.length:Int) then((bits_Len64.f (rd aa (ji6))).bind fun ab=>(some (wrap64 ((wrap64 (64*(ji6)))+ab)))) else(none)) else(none))=some r:=by first|(rw[ad]at H;exact H)|(simp only[ad]at H ⊢;exact H)
 (try rw[ad]at A2)
 have an:(IntKind.i64.wrap ((aa.length:Int)-1))=ji6:=(i64_w _).trans ad
 by_cases c7:0≤(ji6)
 ·rw[if_pos c7]at H
  have ap:decide (0≤(ji6))=true:=decide_eq_true c7
  clear c7
  by_cases c8:(ji6)<(aa.length:Int)
  ·rw[if_pos c8]at H
   have aq:decide ((ji6)<(aa.length:Int))=true:=decide_eq_true c8
   clear c8
   replace H:=Option.bind_eq_some_iff.mp H
   obtain⟨ab,A90,H⟩:=H
   replace H:(some (wrap64 ((wrap64 (64*(ji6)))+ab)))=some r:=H
   have A9:=Aside0.mk A90
   clear A90
   obtain rfl:=Option.some.inj H
   go_enter Tryz.func53,Tryz.ntmps53
   go_wp2_with (first|((with_reducible refine gate_callee (f:=96) rfl ?_);refine kgl (some 4) rfl rfl Tryz.func96 #[.slice A0 l0.length c0] rfl ?_;(with_reducible refine(nat_trim.calls k (fun k_=>k_<w.heap.size) _ _ l0 aa _ ?side1 A2.out).mono ?_);(case side1=>exact Kd.V_mk HC0.out (Kd.F_below (Kd.C_F (Kd.heap_int .u64) HR0.out) (khu HB.out)));rintro e w10 ⟨ag,rfl,ho0,hb⟩;refine⟨_,rfl,?_⟩;have ac:=Aside0.mk (Kd.V_lower (Kd.V_mono (ok':=fun k_=>True) ho0 (fun k_ hk_=>trivial)) (below_size (khu HB.out)));replace HB:=kbs HB hb;(try clear hb);(try clear hb2);(try clear hk);(try clear hi);(try clear ho0);obtain⟨ar,au,ak⟩:=Kd.V_slice ac.out;subst ak;have ae:0≤((ji6):Int):=of_decide_eq_true ‹_›;have af:(ji6)<(aa.length:Int):=of_decide_eq_true ‹_›;obtain⟨am,ah,al⟩:=Kd.at_int (Kd.V_reads' ac.out).2.2 (ji6) ae af;cases ah;replace ae:=eq_true ae;replace af:=eq_true af)|((with_reducible refine gate_callee (f:=97) rfl ?_);refine goesL_ (some 18) rfl rfl Tryz.func97 Y0 rfl #[.int .u64 (rd aa (ji6))] rfl (by(try simp only[List.map_toArray,List.map_cons,List.map_nil]);first|done|(simp only[ad];rfl)|rfl|(simp only[List.length_drop,List.length_take];rfl)) ?_;(with_reducible refine(bits_Len64.calls (rd aa (ji6)) ab _ A9.out).mono ?_);rintro e w' ⟨rfl,⟨nd,rfl⟩⟩;refine⟨_,rfl,?_⟩))
   go_ret
   exact⟨by first|rfl|(simp[errW_none,errW_some]<;>rfl)|(simp only[←ad];first|rfl|(simp[errW_none,errW_some]<;>rfl))|(simp[*,errW_none,errW_some]<;>rfl),khu HB.out⟩
  rw[if_neg c8]at H
  exact absurd H Z1
 rw[if_neg c7]at H
 exact absurd H Z1
def bits_Right.f (k:Nat) (a0_0:Int) (l0_1:List Int):Option (Bool):=if a0_0≥1 then(if a0_0≤4096 then((nat_Len.f k l0_1).bind fun t1110=>(some (decide (t1110≤a0_0)))) else(some false)) else(some false)
theorem bits_Right.mono:∀a0 a1 k,LeO (bits_Right.f k a0 a1) (bits_Right.f (k+1) a0 a1):=by
 intro a0 a1 k
 unfold bits_Right.f
 repeat' first
   | (with_reducible exact nat_Len.mono _ _)
   | (with_reducible exact LeO.refl _)
   | (with_reducible exact LeO.none _)
   | (with_reducible refine LeO.ite ?_ ?_)
   | (with_reducible refine LeO.bind ?_ (fun _=>?_))
   | exact nat_Len.mono _ _
   | exact LeO.none _
   | refine LeO.ite ?_ ?_
   | refine LeO.bind ?_ (fun _=>?_)
def bits_Right.T1:Bool×List (List Nat×List Nat):=(true,[([],[]),([0],[0]),([1],[1]),([2],[2]),([3],[3]),([4,3],[3,4]),([5,3],[3,5]),([3,6],[3,6]),([7,3],[7]),([8],[8]),([9,8],[8,9]),([10,8,8],[8,10]),([8],[8]),([12,8],[8,12]),([11,13,8],[8,11,13]),([8,14],[8,14]),([15,11,0,1,2,3,4,5,6,7,8,9,10,11,12,13,14,15],[15])])
def bits_Right.B1:List Nat:=[0,1,3,7,15,31,63,127,255,511,1023,2047,511,4607,16383,32767,65535]
theorem bits_Right.tab1:rtab .any (opsOf Tryz.f29 1)=bits_Right.T1:=by kernel_rfl
theorem bits_Right.bits1:waitsOk bits_Right.T1.2 bits_Right.B1=true:=by kernel_rfl
theorem bits_Right.calls (k:Nat) (aa:Int) (ac:Option Addr) (ad:Nat) (ab:List Int) (r:Bool) (w:World) (ae:Kd.C (Kd.int .u64) w ac ab.length ab) (af:ab.length≤ad) (h:bits_Right.f k aa ab=some r) :
  Calls Tryz.prog 29 #[.agg #[.int .i64 aa,.slice ac ab.length ad]] w fun e w'=>e=.returned (.bool r)∧Below w.heap.size w w':=by
 have ai:=Tryz.underlying28
 have K:=Kp.refl w
 replace K:=K.parV (Kd.V_mono (ok':=fun _=>True) (Kd.V_mk (e:=48) (base:=0) af (Kd.C_F (Kd.heap_int .u64) ae)) (fun _ h=>trivial))
 clear ae af
 try simp only[klv]at K
 rw[bits_Right.f]at h
 go_enter Tryz.func29,Tryz.ntmps29
 go_wp2_with (first|(refine gd 1 rfl ?_;refine kbk 1 #[.int .i64 aa,.slice ac ab.length ad] 28 K.u ?_;clear K;intro g1 W2 K))
 by_cases c_0:aa≥1
 ·rw[if_pos c_0]at h
  have ag:decide (aa≥1)=true:=decide_eq_true c_0
  by_cases c_1:aa≤4096
  ·rw[if_pos c_1]at h
   have ah:decide (aa≤4096)=true:=decide_eq_true c_1
   replace h:=bindA h
   obtain⟨n3,A4,h⟩:=h
   obtain⟨Bs,Vs,Os,hBs,hVs,hOs,K⟩:=K.abs
   have HS:Aside0 (∀l m o W,Kp w (Bs++l) m o W→W.cell? ⟨g1,0,none⟩=some (.int .i64 aa)∧W.cell? ⟨g1,1,none⟩=some (.slice ac ab.length ad)):=⟨fun l m o W K=>by rw[hBs.out]at K;exact⟨K.cell 0 rfl 0 rfl,K.cell 0 rfl 1 rfl⟩⟩
   refine kpstart (n:=17) (ds:=[]) (S:=fun W=>W.cell? ⟨g1,0,none⟩=some (.int .i64 aa)∧W.cell? ⟨g1,1,none⟩=some (.slice ac ab.length ad)) (bm_ 17 0) Y0 rfl rfl K (HS.out [] _ _) (fun W5 K hH=>?_)
   refine with_tabW bits_Right.tab1 bits_Right.bits1 (fun HT_ HW_=>?_)
   refine pu_ 0 3 ?_ (bm_ 17 1) rfl rfl (any_of HT_.out Y0) (fun _ _ _ h=>h) F0 ?_ ?_ ?_ ?_
   rotate_left
   ·intro w'
    go_simp
    with_reducible rfl
   rotate_left
   ·simp only[Act.put,kss,i64_w,i32_w]
    rfl
   refine tk_ 1 4 ?_ (bm_ 17 3) rfl rfl (take_ofW HT_.out HW_.out Y0) (fun _ _ _ h=>h) F0 ?_ hH ?_ ?_ ?_
   rotate_left
   ·rintro w' ⟨s0,s1⟩
    go_simp
    with_reducible rfl
   rotate_left
   ·simp only[Act.put,kss,i64_w,i32_w]
    rfl
   refine pu_ 2 5 ?_ (bm_ 17 7) rfl rfl (any_of HT_.out Y0) (fun _ _ _ h=>h) F0 ?_ ?_ ?_ ?_
   rotate_left
   ·intro w'
    go_simp
    with_reducible rfl
   rotate_left
   ·simp only[Act.put,kss,i64_w,i32_w]
    rfl
   refine pu_ 3 6 ?_ (bm_ 17 15) rfl rfl (any_of HT_.out Y0) (fun _ _ _ h=>h) F0 ?_ ?_ ?_ ?_
   rotate_left
   ·intro w'
    go_simp
    with_reducible rfl
   rotate_left
   ·simp only[Act.put,kss,i64_w,i32_w]
    rfl
   refine pu_ 4 7 ?_ (bm_ 17 31) rfl rfl (any_of HT_.out Y0) (fun _ _ _ h=>h) F0 ?_ ?_ ?_ ?_
   rotate_left
   ·intro w'
    go_simp
    with_reducible rfl
   rotate_left
   ·simp only[Act.put,kss,i64_w,i32_w]
    rfl
   refine tk_ 5 8 ?_ (bm_ 17 63) rfl rfl (take_ofW HT_.out HW_.out Y0) (fun _ _ _ h=>h) F0 ?_ hH ?_ ?_ ?_
   rotate_left
   ·rintro w' ⟨s0,s1⟩
    go_simp
    with_reducible rfl
   rotate_left
   ·simp only[Act.put,kss,i64_w,i32_w]
    rfl
   refine pu_ 6 9 ?_ (bm_ 17 127) rfl rfl (any_of HT_.out Y0) (fun _ _ _ h=>h) F0 ?_ ?_ ?_ ?_
   rotate_left
   ·intro w'
    go_simp
    with_reducible rfl
   rotate_left
   ·simp only[Act.put,kss,i64_w,i32_w]
    rfl
   refine pu_ 7 10 ?_ (bm_ 17 255) rfl rfl (any_of HT_.out Y0) (fun _ _ _ h=>h) F0 ?_ ?_ ?_ ?_
   rotate_left
   ·intro w'
    go_simp
    with_reducible rfl
   rotate_left
   ·simp only[Act.put,kss,i64_w,i32_w]
    rfl
   refine pu_ 8 11 ?_ (bm_ 17 511) rfl rfl (any_of HT_.out Y0) (fun _ _ _ h=>h) F0 ?_ ?_ ?_ ?_
   rotate_left
   ·intro w'
    go_simp
    with_reducible rfl
   rotate_left
   ·simp only[Act.put,kss,i64_w,i32_w]
    rfl
   refine pu_ 9 12 ?_ (bm_ 17 1023) rfl rfl (any_of HT_.out Y0) (fun _ _ _ h=>h) F0 ?_ ?_ ?_ ?_
   rotate_left
   ·intro w'
    go_simp
    with_reducible rfl
   rotate_left
   ·simp only[Act.put,kss,i64_w,i32_w]
    rfl
   refine tk_ 10 13 ?_ (bm_ 17 2047) rfl rfl (take_ofW HT_.out HW_.out Y0) (fun _ _ _ h=>h) F0 ?_ hH ?_ ?_ ?_
   rotate_left
   ·rintro w' ⟨s0,s1⟩
    go_simp
    with_reducible rfl
   rotate_left
   ·simp only[Act.put,kss,i64_w,i32_w]
    rfl
   refine pu_ 12 15 ?_ (bm_ 17 6143) rfl rfl (any_of HT_.out Y0) (fun _ _ _ h=>h) F0 ?_ ?_ ?_ ?_
   rotate_left
   ·intro w'
    go_simp
    with_reducible rfl
   rotate_left
   ·simp only[Act.put,kss,i64_w,i32_w]
    rfl
   refine tk_ 13 16 ?_ (bm_ 17 14335) rfl rfl (take_ofW HT_.out HW_.out Y0) (fun _ _ _ h=>h) F0 ?_ hH ?_ ?_ ?_
   rotate_left
   ·rintro w' ⟨s0,s1⟩
    go_simp
    with_reducible rfl
   rotate_left
   ·simp only[Act.put,kss,i64_w,i32_w]
    rfl
   refine one_ (i:=11) (N:=some 14) (bm_ 17 16383) rfl rfl (one_of HT_.out Y0) X0 (fun Kc hK=>?_)
   refine kgo Tryz.func53 #[.slice ac ab.length ad] F0 rfl rfl ?_
   refine(nat_Len.calls _ _ _ ab n3 _ (K.C 0 (hv hVs rfl)) (K.le 0 (hv hVs rfl)) A4.out).mono ?_
   rintro e W' ⟨rfl,hb⟩
   replace K:=K.up hb
   clear hb
   refine⟨_,rfl,hK.out _ _ (HS.out _ _ _ _ K) fun hH=>?_⟩
   refine norm_ (a':=?_) ?_ ?_
   rotate_left
   ·show Act.put _ (some 14) _=_
    simp only[Act.put,kss,i64_w,i32_w]
    rfl
   refine pu_ 14 17 ?_ (bm_ 17 32767) rfl rfl (any_of HT_.out Y0) (fun _ _ _ h=>h) F0 ?_ ?_ ?_ ?_
   rotate_left
   ·intro w'
    go_simp
    with_reducible rfl
   rotate_left
   ·simp only[Act.put,kss,i64_w,i32_w]
    rfl
   refine pu_ 15 18 ?_ (bm_ 17 65535) rfl rfl (any_of HT_.out Y0) (fun _ _ _ h=>h) F0 ?_ ?_ ?_ ?_
   rotate_left
   ·intro w'
    go_simp
    with_reducible rfl
   rotate_left
   ·simp only[Act.put,kss,i64_w,i32_w]
    rfl
   refine pu_ 16 2 ?_ (bm_ 17 131071) rfl rfl (any_of HT_.out Y0) (fun _ _ _ h=>h) F0 ?_ ?_ ?_ ?_
   rotate_left
   ·intro w'
    go_simp
    with_reducible rfl
   rotate_left
   ·simp only[Act.put,kss,i64_w,i32_w]
    rfl
   clear hK Kc
   rw[hBs.out,hVs.out,hOs.out]at K
   simp only[kls,klv]at K
   clear hBs hVs hOs HS hH
   refine done_ (done_of HT_.out Y0) ?_
   clear HT_ HW_
   simp only[Option.some.injEq]at h
   subst h
   go_wp2
   go_ret
   exact⟨rfl,K.u.below⟩
  rw[if_neg c_1]at h
  have ah:decide (aa≤4096)=false:=decide_eq_false c_1
  obtain⟨Bs,Vs,Os,hBs,hVs,hOs,K⟩:=K.abs
  have HS:Aside0 (∀l m o W,Kp w (Bs++l) m o W→W.cell? ⟨g1,0,none⟩=some (.int .i64 aa)∧W.cell? ⟨g1,1,none⟩=some (.slice ac ab.length ad)):=⟨fun l m o W K=>by rw[hBs.out]at K;exact⟨K.cell 0 rfl 0 rfl,K.cell 0 rfl 1 rfl⟩⟩
  refine kpstart (n:=17) (ds:=[]) (S:=fun W=>W.cell? ⟨g1,0,none⟩=some (.int .i64 aa)∧W.cell? ⟨g1,1,none⟩=some (.slice ac ab.length ad)) (bm_ 17 0) Y0 rfl rfl K (HS.out [] _ _) (fun W3 K hH=>?_)
  refine with_tabW bits_Right.tab1 bits_Right.bits1 (fun HT_ HW_=>?_)
  refine pu_ 0 3 ?_ (bm_ 17 1) rfl rfl (any_of HT_.out Y0) (fun _ _ _ h=>h) F0 ?_ ?_ ?_ ?_
  rotate_left
  ·intro w'
   go_simp
   with_reducible rfl
  rotate_left
  ·simp only[Act.put,kss,i64_w,i32_w]
   rfl
  refine tk_ 1 4 ?_ (bm_ 17 3) rfl rfl (take_ofW HT_.out HW_.out Y0) (fun _ _ _ h=>h) F0 ?_ hH ?_ ?_ ?_
  rotate_left
  ·rintro w' ⟨s0,s1⟩
   go_simp
   with_reducible rfl
  rotate_left
  ·simp only[Act.put,kss,i64_w,i32_w]
   rfl
  refine pu_ 2 5 ?_ (bm_ 17 7) rfl rfl (any_of HT_.out Y0) (fun _ _ _ h=>h) F0 ?_ ?_ ?_ ?_
  rotate_left
  ·intro w'
   go_simp
   with_reducible rfl
  rotate_left
  ·simp only[Act.put,kss,i64_w,i32_w]
   rfl
  refine pu_ 3 6 ?_ (bm_ 17 15) rfl rfl (any_of HT_.out Y0) (fun _ _ _ h=>h) F0 ?_ ?_ ?_ ?_
  rotate_left
  ·intro w'
   go_simp
   with_reducible rfl
  rotate_left
  ·simp only[Act.put,kss,i64_w,i32_w]
   rfl
  refine pu_ 4 7 ?_ (bm_ 17 31) rfl rfl (any_of HT_.out Y0) (fun _ _ _ h=>h) F0 ?_ ?_ ?_ ?_
  rotate_left
  ·intro w'
   go_simp
   with_reducible rfl
  rotate_left
  ·simp only[Act.put,kss,i64_w,i32_w]
   rfl
  refine tk_ 5 8 ?_ (bm_ 17 63) rfl rfl (take_ofW HT_.out HW_.out Y0) (fun _ _ _ h=>h) F0 ?_ hH ?_ ?_ ?_
  rotate_left
  ·rintro w' ⟨s0,s1⟩
   go_simp
   with_reducible rfl
  rotate_left
  ·simp only[Act.put,kss,i64_w,i32_w]
   rfl
  refine pu_ 6 9 ?_ (bm_ 17 127) rfl rfl (any_of HT_.out Y0) (fun _ _ _ h=>h) F0 ?_ ?_ ?_ ?_
  rotate_left
  ·intro w'
   go_simp
   with_reducible rfl
  rotate_left
  ·simp only[Act.put,kss,i64_w,i32_w]
   rfl
  refine pu_ 7 10 ?_ (bm_ 17 255) rfl rfl (any_of HT_.out Y0) (fun _ _ _ h=>h) F0 ?_ ?_ ?_ ?_
  rotate_left
  ·intro w'
   go_simp
   with_reducible rfl
  rotate_left
  ·simp only[Act.put,kss,i64_w,i32_w]
   rfl
  refine pu_ 8 11 ?_ (bm_ 17 511) rfl rfl (any_of HT_.out Y0) (fun _ _ _ h=>h) F0 ?_ ?_ ?_ ?_
  rotate_left
  ·intro w'
   go_simp
   with_reducible rfl
  rotate_left
  ·simp only[Act.put,kss,i64_w,i32_w]
   rfl
  refine pure_ (i:=9) (N:=some 12) (v:=undef) (a':=?_) (bm_ 17 1023) rfl rfl (any_of HT_.out Y0) (fun _ _ _ h=>h) (Or.inr ⟨F0,rfl⟩) ?_ ?_
  rotate_left
  ·simp only[Act.put,kss,i64_w,i32_w]
   rfl
  refine pure_ (i:=10) (N:=some 13) (v:=undef) (a':=?_) (bm_ 17 2047) rfl rfl (any_of HT_.out Y0) (fun _ _ _ h=>h) (Or.inr ⟨F0,rfl⟩) ?_ ?_
  rotate_left
  ·simp only[Act.put,kss,i64_w,i32_w]
   rfl
  refine pure_ (i:=11) (N:=some 14) (v:=undef) (a':=?_) (bm_ 17 4095) rfl rfl (any_of HT_.out Y0) (fun _ _ _ h=>h) (Or.inr ⟨F0,rfl⟩) ?_ ?_
  rotate_left
  ·simp only[Act.put,kss,i64_w,i32_w]
   rfl
  refine pure_ (i:=12) (N:=some 15) (v:=undef) (a':=?_) (bm_ 17 8191) rfl rfl (any_of HT_.out Y0) (fun _ _ _ h=>h) (Or.inr ⟨F0,rfl⟩) ?_ ?_
  rotate_left
  ·simp only[Act.put,kss,i64_w,i32_w]
   rfl
  refine pure_ (i:=13) (N:=some 16) (v:=undef) (a':=?_) (bm_ 17 16383) rfl rfl (any_of HT_.out Y0) (fun _ _ _ h=>h) (Or.inr ⟨F0,rfl⟩) ?_ ?_
  rotate_left
  ·simp only[Act.put,kss,i64_w,i32_w]
   rfl
  refine pure_ (i:=14) (N:=some 17) (v:=undef) (a':=?_) (bm_ 17 32767) rfl rfl (any_of HT_.out Y0) (fun _ _ _ h=>h) (Or.inr ⟨F0,rfl⟩) ?_ ?_
  rotate_left
  ·simp only[Act.put,kss,i64_w,i32_w]
   rfl
  refine pu_ 15 18 ?_ (bm_ 17 65535) rfl rfl (any_of HT_.out Y0) (fun _ _ _ h=>h) F0 ?_ ?_ ?_ ?_
  rotate_left
  ·intro w'
   go_simp
   with_reducible rfl
  rotate_left
  ·simp only[Act.put,kss,i64_w,i32_w]
   rfl
  refine pu_ 16 2 ?_ (bm_ 17 131071) rfl rfl (any_of HT_.out Y0) (fun _ _ _ h=>h) F0 ?_ ?_ ?_ ?_
  rotate_left
  ·intro w'
   go_simp
   with_reducible rfl
  rotate_left
  ·simp only[Act.put,kss,i64_w,i32_w]
   rfl
  rw[hBs.out,hVs.out,hOs.out]at K
  simp only[kls,klv]at K
  clear hBs hVs hOs HS hH
  refine done_ (done_of HT_.out Y0) ?_
  clear HT_ HW_
  simp only[Option.some.injEq]at h
  subst h
  go_wp2
  go_ret
  exact⟨rfl,K.u.below⟩
 rw[if_neg c_0]at h
 have ag:decide (aa≥1)=false:=decide_eq_false c_0
 obtain⟨Bs,Vs,Os,hBs,hVs,hOs,K⟩:=K.abs
 have HS:Aside0 (∀l m o W,Kp w (Bs++l) m o W→W.cell? ⟨g1,0,none⟩=some (.int .i64 aa)∧W.cell? ⟨g1,1,none⟩=some (.slice ac ab.length ad)):=⟨fun l m o W K=>by rw[hBs.out]at K;exact⟨K.cell 0 rfl 0 rfl,K.cell 0 rfl 1 rfl⟩⟩
 refine kpstart (n:=17) (ds:=[]) (S:=fun W=>W.cell? ⟨g1,0,none⟩=some (.int .i64 aa)∧W.cell? ⟨g1,1,none⟩=some (.slice ac ab.length ad)) (bm_ 17 0) Y0 rfl rfl K (HS.out [] _ _) (fun W3 K hH=>?_)
 refine with_tabW bits_Right.tab1 bits_Right.bits1 (fun HT_ HW_=>?_)
 refine pu_ 0 3 ?_ (bm_ 17 1) rfl rfl (any_of HT_.out Y0) (fun _ _ _ h=>h) F0 ?_ ?_ ?_ ?_
 rotate_left
 ·intro w'
  go_simp
  with_reducible rfl
 rotate_left
 ·simp only[Act.put,kss,i64_w,i32_w]
  rfl
 refine tk_ 1 4 ?_ (bm_ 17 3) rfl rfl (take_ofW HT_.out HW_.out Y0) (fun _ _ _ h=>h) F0 ?_ hH ?_ ?_ ?_
 rotate_left
 ·rintro w' ⟨s0,s1⟩
  go_simp
  with_reducible rfl
 rotate_left
 ·simp only[Act.put,kss,i64_w,i32_w]
  rfl
 refine pu_ 2 5 ?_ (bm_ 17 7) rfl rfl (any_of HT_.out Y0) (fun _ _ _ h=>h) F0 ?_ ?_ ?_ ?_
 rotate_left
 ·intro w'
  go_simp
  with_reducible rfl
 rotate_left
 ·simp only[Act.put,kss,i64_w,i32_w]
  rfl
 refine pu_ 3 6 ?_ (bm_ 17 15) rfl rfl (any_of HT_.out Y0) (fun _ _ _ h=>h) F0 ?_ ?_ ?_ ?_
 rotate_left
 ·intro w'
  go_simp
  with_reducible rfl
 rotate_left
 ·simp only[Act.put,kss,i64_w,i32_w]
  rfl
 refine pure_ (i:=4) (N:=some 7) (v:=undef) (a':=?_) (bm_ 17 31) rfl rfl (any_of HT_.out Y0) (fun _ _ _ h=>h) (Or.inr ⟨F0,rfl⟩) ?_ ?_
 rotate_left
 ·simp only[Act.put,kss,i64_w,i32_w]
  rfl
 refine pure_ (i:=5) (N:=some 8) (v:=undef) (a':=?_) (bm_ 17 63) rfl rfl (any_of HT_.out Y0) (fun _ _ _ h=>h) (Or.inr ⟨F0,rfl⟩) ?_ ?_
 rotate_left
 ·simp only[Act.put,kss,i64_w,i32_w]
  rfl
 refine pure_ (i:=6) (N:=some 9) (v:=undef) (a':=?_) (bm_ 17 127) rfl rfl (any_of HT_.out Y0) (fun _ _ _ h=>h) (Or.inr ⟨F0,rfl⟩) ?_ ?_
 rotate_left
 ·simp only[Act.put,kss,i64_w,i32_w]
  rfl
 refine pu_ 7 10 ?_ (bm_ 17 255) rfl rfl (any_of HT_.out Y0) (fun _ _ _ h=>h) F0 ?_ ?_ ?_ ?_
 rotate_left
 ·intro w'
  go_simp
  with_reducible rfl
 rotate_left
 ·simp only[Act.put,kss,i64_w,i32_w]
  rfl
 refine pu_ 8 11 ?_ (bm_ 17 511) rfl rfl (any_of HT_.out Y0) (fun _ _ _ h=>h) F0 ?_ ?_ ?_ ?_
 rotate_left
 ·intro w'
  go_simp
  with_reducible rfl
 rotate_left
 ·simp only[Act.put,kss,i64_w,i32_w]
  rfl
 refine pure_ (i:=9) (N:=some 12) (v:=undef) (a':=?_) (bm_ 17 1023) rfl rfl (any_of HT_.out Y0) (fun _ _ _ h=>h) (Or.inr ⟨F0,rfl⟩) ?_ ?_
 rotate_left
 ·simp only[Act.put,kss,i64_w,i32_w]
  rfl
 refine pure_ (i:=10) (N:=some 13) (v:=undef) (a':=?_) (bm_ 17 2047) rfl rfl (any_of HT_.out Y0) (fun _ _ _ h=>h) (Or.inr ⟨F0,rfl⟩) ?_ ?_
 rotate_left
 ·simp only[Act.put,kss,i64_w,i32_w]
  rfl
 refine pure_ (i:=11) (N:=some 14) (v:=undef) (a':=?_) (bm_ 17 4095) rfl rfl (any_of HT_.out Y0) (fun _ _ _ h=>h) (Or.inr ⟨F0,rfl⟩) ?_ ?_
 rotate_left
 ·simp only[Act.put,kss,i64_w,i32_w]
  rfl
 refine pure_ (i:=12) (N:=some 15) (v:=undef) (a':=?_) (bm_ 17 8191) rfl rfl (any_of HT_.out Y0) (fun _ _ _ h=>h) (Or.inr ⟨F0,rfl⟩) ?_ ?_
 rotate_left
 ·simp only[Act.put,kss,i64_w,i32_w]
  rfl
 refine pure_ (i:=13) (N:=some 16) (v:=undef) (a':=?_) (bm_ 17 16383) rfl rfl (any_of HT_.out Y0) (fun _ _ _ h=>h) (Or.inr ⟨F0,rfl⟩) ?_ ?_
 rotate_left
 ·simp only[Act.put,kss,i64_w,i32_w]
  rfl
 refine pure_ (i:=14) (N:=some 17) (v:=undef) (a':=?_) (bm_ 17 32767) rfl rfl (any_of HT_.out Y0) (fun _ _ _ h=>h) (Or.inr ⟨F0,rfl⟩) ?_ ?_
 rotate_left
 ·simp only[Act.put,kss,i64_w,i32_w]
  rfl
 refine pu_ 15 18 ?_ (bm_ 17 65535) rfl rfl (any_of HT_.out Y0) (fun _ _ _ h=>h) F0 ?_ ?_ ?_ ?_
 rotate_left
 ·intro w'
  go_simp
  with_reducible rfl
 rotate_left
 ·simp only[Act.put,kss,i64_w,i32_w]
  rfl
 refine pu_ 16 2 ?_ (bm_ 17 131071) rfl rfl (any_of HT_.out Y0) (fun _ _ _ h=>h) F0 ?_ ?_ ?_ ?_
 rotate_left
 ·intro w'
  go_simp
  with_reducible rfl
 rotate_left
 ·simp only[Act.put,kss,i64_w,i32_w]
  rfl
 rw[hBs.out,hVs.out,hOs.out]at K
 simp only[kls,klv]at K
 clear hBs hVs hOs HS hH
 refine done_ (done_of HT_.out Y0) ?_
 clear HT_ HW_
 simp only[Option.some.injEq]at h
 subst h
 go_wp2
 go_ret
 exact⟨rfl,K.u.below⟩
def bits_vectors_1.f (k:Nat) (a0_0:Int) (l0_1:List Int):Option (Bool):=(bits_Right.f k a0_0 l0_1).bind fun t1112=>(some (!t1112))
theorem bits_vectors_1.calls (k:Nat) (a0_0:Int) (A0_1:Option Addr) (c0_1:Nat) (l0_1:List Int) (r:Bool) (w:World) (hr0_1:Kd.C (Kd.int .u64) w A0_1 l0_1.length l0_1) (hc0_1:l0_1.length≤c0_1) (h:bits_vectors_1.f k a0_0 l0_1=some r) :
  Calls Tryz.prog 69 #[.agg #[.int .i64 a0_0,.slice A0_1 l0_1.length c0_1]] w fun e w'=>e=.returned (.bool r)∧Below w.heap.size w w':=by
 have hu28:=Tryz.underlying28
 have K:=Kp.refl w
 replace K:=K.parV (Kd.V_mono (ok':=fun _=>True) (Kd.V_mk (e:=48) (base:=0) hc0_1 (Kd.C_F (Kd.heap_int .u64) hr0_1)) (fun _ h=>trivial))
 clear hr0_1 hc0_1
 try simp only[klv]at K
 rw[bits_vectors_1.f]at h
 replace h:=bindA h
 obtain⟨z3,A4,h⟩:=h
 simp only[Option.some.injEq]at h
 subst h
 go_enter Tryz.func69,Tryz.ntmps69
 go_wp2_with (first|(refine gd 1 rfl ?_;refine kbk 1 #[.int .i64 a0_0,.slice A0_1 l0_1.length c0_1] 28 K.u ?_;clear K;intro g1 W2 K;obtain⟨ua0,ub0⟩:=K.cell2 0 rfl)|(refine gd 4 rfl ?_;clear ua0 ub0;refine kgl (some 4) rfl rfl Tryz.func29 #[.agg #[.int .i64 a0_0,.slice A0_1 l0_1.length c0_1]] rfl ?_;refine(bits_Right.calls _ a0_0 _ _ l0_1 z3 _ (K.C 0 rfl) (K.le 0 rfl) A4.out).mono ?_;rintro e W5 ⟨rfl,hb⟩;refine⟨_,rfl,?_⟩;replace K:=K.u.up hb;clear hb))
 go_ret
 exact⟨rfl,K.u.below⟩
end Go.Proofs.YtncomlmhagaajaaGreat.PBo
section
set_option maxHeartbeats 8000000
set_option maxRecDepth 100000
set_option linter.unusedVariables false
set_option linter.unusedSimpArgs false
namespace Go.Proofs.YtncomlmhagaajaaGreat.PBo
open Go Go.RowKit Go.Proofs.YtncomlmhagaajaaGreatW.PrintWords Go.Proofs.YtncomlmhagaajaaGreatW.PrintLast Go.Proofs.YtncomlmhagaajaaGreatW.PrintMore Go.Proofs.YtncomlmhagaajaaGreat.Mine
instance:Inhabited S28:=⟨z28⟩
def laysQ8_ren:Go.Shelf.Ren:=⟨fun|8=>68|6=>141|n=>n,fun|22=>24|23=>28|25=>59|4=>4|3=>3|0=>0|n=>n,fun|n=>n⟩
theorem laysQ8:Go.Proofs.SlLaysH0.n8 Tryz.prog laysQ8_ren:={
 mixed:=by kernel_rfl
 f6:=⟨Tryz.f141.name,X0,Tryz.func141.trans (congrArg some Y0)⟩
 f8:=⟨Tryz.f68.name,X0,Tryz.func68.trans (congrArg some Y0)⟩
 t0:=Tryz.underlying0
 a0:=Tryz.isAgg0
 z0:=Tryz.sizeOf0
 v0:=Tryz.zeroValue0
 t3:=Tryz.underlying3
 a3:=Tryz.isAgg3
 z3:=Tryz.sizeOf3
 v3:=Tryz.zeroValue3
 t4:=Tryz.underlying4
 a4:=Tryz.isAgg4
 z4:=Tryz.sizeOf4
 v4:=Tryz.zeroValue4
 t22:=Tryz.underlying24
 a22:=Tryz.isAgg24
 z22:=Tryz.sizeOf24
 v22:=Tryz.zeroValue24
 t25:=Tryz.underlying59
 a25:=Tryz.isAgg59
 z25:=Tryz.sizeOf59
 v25:=Tryz.zeroValue59}
theorem vec_place {w:World} {A:Option Addr} {l:List S28} (h:Kd.C k28 w A l.length l) (hl:l≠[]) :
  ∃(bk o:Nat) (F:Fin l.length→Option Addr×Nat),A=some ⟨bk,o,none⟩∧bk<w.heap.size∧(∀j:Fin l.length,l[j].f1.length≤(F j).2∧Kd.C (Kd.int .u64) w (F j).1 l[j].f1.length l[j].f1)∧∀j:Fin l.length,∀i v,[Value.int .i64 l[j].f0,.slice (F j).1 l[j].f1.length (F j).2][i]? = some v→w.cell? ⟨bk,o+j.1*2+i,none⟩=some v:=by
 have h0:0<l.length:=List.length_pos_iff.2 hl
 obtain⟨ad,rfl,hc⟩:=h.2.2 h0
 obtain⟨bk,o,sp⟩:=ad
 have key:∀j:Fin l.length,∃p:Option Addr×Nat,(l[j].f1.length≤p.2∧Kd.C (Kd.int .u64) w p.1 l[j].f1.length l[j].f1)∧∀i v,[Value.int .i64 l[j].f0,.slice p.1 l[j].f1.length p.2][i]? = some v→w.cell? ((⟨bk,o,sp⟩:Addr).add (j.1*2+i))=some v:=by
  intro j
  obtain⟨c,hlen,hK,hcell⟩:=hc j.1 l[j] (List.getElem?_eq_getElem j.2)
  obtain⟨A1,c1,rfl,h1,h2⟩:=k28_open hK
  exact⟨(A1,c1),⟨h1,h2⟩,fun i v hv=>hcell i v hv⟩
 have hsp:sp=none:=by
  obtain⟨p,_,hp⟩:=key ⟨0,h0⟩
  have:=hp 0 _ rfl
  simp only[Addr.add,Nat.zero_mul,Nat.add_zero,if_true]at this
  unfold World.cell? at this
  split at this
  ·split at this
   ·cases this
   cases sp with
   | none=>rfl
   | some s=>simp_all
  cases this
 subst hsp
 obtain⟨F,hF⟩:=Classical.axiomOfChoice key
 have cells:∀j:Fin l.length,∀i v,[Value.int .i64 l[j].f0,.slice (F j).1 l[j].f1.length (F j).2][i]? = some v→w.cell? ⟨bk,o+j.1*2+i,none⟩=some v:=by
  intro j i v hv
  have:=(hF j).2 i v hv
  simp only[Addr.add]at this
  split at this
  ·rename_i h
   rw[show o+j.1*2+i=o from by omega];exact this
  rw[Nat.add_assoc];exact this
 exact⟨bk,o,F,rfl,World.block_lt_of_cell? w _ (cells ⟨0,h0⟩ 0 _ rfl),fun j=>(hF j).1,cells⟩
theorem any_fin {α:Type} (l:List α) (q:α→Bool):(List.ofFn (fun j:Fin l.length=>j)).any (fun j=>q l[j])=l.any q:=by
 have h:(List.ofFn (fun j:Fin l.length=>j)).map (fun j=>l[j])=l:=by
  rw[List.map_ofFn]
  exact List.ofFn_getElem
 conv=>rhs;rw[←h,List.any_map]
 rfl
theorem contains_vec (q:S28→Bool) (g:Nat) (lb:Array Value) (eg:∀args w,(callFunc g args).run Tryz.prog w=.ok (.enter g args) w) (A:Option Addr) (c:Nat) (l:List S28) (w:World) (hC:Kd.C k28 w A l.length l) (hne:l≠[]) (hb:l.length≤9223372036854775807)
  (hp:∀(W:World) (x:S28),x∈l→∀B d,x.f1.length≤d→Kd.C (Kd.int .u64) W B x.f1.length x.f1→Below w.heap.size w W→Calls Tryz.prog g (#[.agg #[.int .i64 x.f0,.slice B x.f1.length d]]++lb) W fun e w'=>e=.returned (.bool (q x))∧Below W.heap.size W w') :
  Calls Tryz.prog 68 #[.slice A l.length c,.func (.func g) #[] lb] w fun e w'=>e=.returned (.bool (l.any q))∧Below w.heap.size w w':=by
 obtain⟨bk,o,F,rfl,hlt,hF,hcells⟩:=vec_place hC hne
 have h0:0<l.length:=List.length_pos_iff.2 hne
 letI:Inhabited (Fin l.length):=⟨⟨0,h0⟩⟩
 have hz:(List.ofFn (fun j:Fin l.length=>j)).length=l.length:=List.length_ofFn
 have hget:∀j (hj:j<l.length),(List.ofFn (fun j:Fin l.length=>j))[j]! = ⟨j,hj⟩:=by
  intro j hj
  rw[getElem!_pos _ j (by rw[hz];exact hj),List.getElem_ofFn]
 have:=AnyQ.slices_ContainsFunc laysQ8 2 Tryz.isAgg28 Tryz.sizeOf28 (fun j:Fin l.length=>[Value.int .i64 l[j].f0,.slice (F j).1 l[j].f1.length (F j).2]) (fun _=>rfl) (fun j=>q l[j]) g lb eg bk o l.length c (List.ofFn (fun j:Fin l.length=>j)) w
  (fun W j hW=>(hp W l[j] (List.getElem_mem j.2) (F j).1 (F j).2 (hF j).1 (Kd.C_below (hF j).2 hW) hW).mono fun e w' h=>⟨h.1,hW.trans (h.2.mono hW.size)⟩) (by rw[hz];exact Nat.le_refl _) hb hlt
  (fun j hj i v hv=>by
   rw[hz]at hj
   rw[hget j hj]at hv
   exact hcells ⟨j,hj⟩ i v hv)
 rw[List.take_of_length_le (by rw[hz];exact Nat.le_refl _),any_fin]at this
 exact this
theorem enter69 (args:Array Value) (w:World):(callFunc 69 args).run Tryz.prog w=.ok (.enter 69 args) w:=by
 go_simp
theorem enter70 (args:Array Value) (w:World):(callFunc 70 args).run Tryz.prog w=.ok (.enter 70 args) w:=by
 go_simp
def rights (k:Nat):List S28→Option Bool
 | []=>some true
 | x::r=>(bits_Right.f k x.f0 x.f1).bind fun b=>(rights k r).bind fun c=>some (b&&c)
theorem rights_mono:∀(l:List S28) (k:Nat),LeO (rights k l) (rights (k+1) l)
 | [],_=>LeO.refl _
 | x::r,k=>by
  intro z h
  unfold rights at h ⊢
  obtain⟨b,hb,h⟩:=Option.bind_eq_some_iff.1 h
  obtain⟨c,hc,h⟩:=Option.bind_eq_some_iff.1 h
  rw[bits_Right.mono _ _ _ _ hb,Option.bind_some,rights_mono r k _ hc,Option.bind_some]
  exact h
theorem rights_spec {k:Nat}:∀ {l:List S28} {b:Bool},rights k l=some b→(∀x∈l,∃v,bits_Right.f k x.f0 x.f1=some v)∧b = !(l.any fun x => !((bits_Right.f k x.f0 x.f1).getD true))
 | [],b,h=>by
  obtain rfl:=Option.some.inj h
  exact⟨fun x hx=>(by cases hx),rfl⟩
 | x::r,b,h=>by
  unfold rights at h
  obtain⟨v,hv,h⟩:=Option.bind_eq_some_iff.1 h
  obtain⟨c,hc,h⟩:=Option.bind_eq_some_iff.1 h
  obtain rfl:=Option.some.inj h
  obtain⟨i1,i2⟩:=rights_spec hc
  refine⟨fun y hy=>?_,?_⟩
  ·rcases List.mem_cons.1 hy with rfl|hy
   ·exact⟨v,hv⟩
   exact i1 y hy
  rw[List.any_cons,hv,Option.getD_some,Bool.not_or,Bool.not_not,←i2]
def wideB (l:List S28):Bool:=l.any fun x=>x.f0 != (l.headD z28).f0
def bits_vectors.f (k:Nat) (a0:Int) (l:List S28):Option Int:=if l=[] then none else(rights k l).bind fun b=>if b=true then(if a0=41 then some 0 else if wideB l=true then some 52 else some 0) else some 90
theorem bits_vectors.mono (a0:Int) (l:List S28) (k:Nat):LeO (bits_vectors.f k a0 l) (bits_vectors.f (k+1) a0 l):=by
 intro z h
 unfold bits_vectors.f at h ⊢
 split at h
 ·cases h
 rename_i hl
 rw[if_neg hl]
 obtain⟨b,hb,h⟩:=Option.bind_eq_some_iff.1 h
 rw[rights_mono _ _ _ hb]
 exact h
theorem contains_right (k:Nat) (A:Option Addr) (c:Nat) (l:List S28) (b:Bool) (w:World) (hC:Kd.C k28 w A l.length l) (hne:l≠[]) (h:rights k l=some b) :
  Calls Tryz.prog 68 #[.slice A l.length c,.func (.func 69) #[] #[]] w fun e w'=>e=.returned (.bool (!b))∧Below w.heap.size w w':=by
 obtain⟨h1,h2⟩:=rights_spec h
 rw[h2,Bool.not_not]
 refine contains_vec (fun x => !((bits_Right.f k x.f0 x.f1).getD true)) 69 #[] enter69 A c l w hC hne hC.2.1 ?_
 intro W x hx B d hd hB hW
 obtain⟨v,hv⟩:=h1 x hx
 rw[hv,Option.getD_some]
 exact bits_vectors_1.calls k x.f0 B d x.f1 (!v) W hB hd (by rw[bits_vectors_1.f,hv,Option.bind_some])
theorem vectors_2 (n:Int) (B:Option Addr) (d:Nat) (m:List Int) (g:Nat) (bk o len c:Nat) (v0:Int) (W:World) (hg:W.cell? ⟨g,0,none⟩=some (.slice (some ⟨bk,o,none⟩) len c)) (h0:0<len) (hv:W.cell? ⟨bk,o,none⟩=some (.int .i64 v0)) :
  Calls Tryz.prog 70 #[.agg #[.int .i64 n,.slice B m.length d],.pointer (some ⟨g,0,none⟩)] W fun e w'=>e=.returned (.bool (n != v0))∧Below W.heap.size W w':=by
 have hgs:=World.block_lt_of_cell? W _ hg
 have hvs:=World.block_lt_of_cell? W _ hv
 have hlen:(0:Int)<len:=by omega
 go_enter Tryz.func70,Tryz.ntmps70
 go_wp2
 go_region
 go_wp2
 go_ret
 exact⟨rfl,below_drew (below_alloc (Below.refl _ _) _)⟩
theorem below2 {w w1 w2:World} (h:Below w.heap.size w w1) (g:Below w1.heap.size w1 w2):Below w.heap.size w w2:=h.trans (g.mono h.size)
theorem below_cell {w w1:World} (h:Below w.heap.size w w1) {a:Addr} {v:Value} (g:w.cell? a=some v):w1.cell? a=some v:=(h.cell (World.block_lt_of_cell? w _ g)).trans g
theorem contains_wide (g:Nat) (A:Option Addr) (c:Nat) (l:List S28) (w:World) (hg:w.cell? ⟨g,0,none⟩=some (.slice A l.length c)) (hC:Kd.C k28 w A l.length l) (hne:l≠[]) :
  Calls Tryz.prog 68 #[.slice A l.length c,.func (.func 70) #[] #[.pointer (some ⟨g,0,none⟩)]] w fun e w'=>e=.returned (.bool (wideB l))∧Below w.heap.size w w':=by
 obtain⟨bk,o,F,rfl,hlt,hF,hcells⟩:=vec_place hC hne
 have h0:0<l.length:=List.length_pos_iff.2 hne
 have hv:w.cell? ⟨bk,o,none⟩=some (.int .i64 (l.headD z28).f0):=by
  have:=hcells ⟨0,h0⟩ 0 _ rfl
  simp only[Nat.zero_mul,Nat.add_zero]at this
  rw[this]
  cases l with
  | nil=>exact absurd rfl hne
  | cons x r=>rfl
 refine contains_vec (fun x=>x.f0 != (l.headD z28).f0) 70 #[.pointer (some ⟨g,0,none⟩)] enter70 _ c l w hC hne hC.2.1 ?_
 intro W x hx B d hd hB hW
 exact vectors_2 x.f0 B d x.f1 g bk o l.length c _ W (below_cell hW hg) h0 (below_cell hW hv)
theorem bits_vectors.calls (k:Nat) (a0:Int) (A1:Option Addr) (c1:Nat) (l1:List S28) (r:Int) (w:World) (hr1:Kd.C k28 w A1 l1.length l1) (hc1:l1.length≤c1) (h:bits_vectors.f k a0 l1=some r) :
  Calls Tryz.prog 33 #[.int .i64 a0,.slice A1 l1.length c1] w fun e w'=>e=.returned (.int .i64 r)∧Below w.heap.size w w':=by
 unfold bits_vectors.f at h
 split at h
 ·cases h
 rename_i hne
 obtain⟨b,hb,h⟩:=Option.bind_eq_some_iff.1 h
 have hbox:(w.alloc (.cells #[.slice A1 l1.length c1] 24)).cell? ⟨w.heap.size,0,none⟩=some (.slice A1 l1.length c1):=by go_simp
 have hB0:Below w.heap.size w (w.alloc (.cells #[.slice A1 l1.length c1] 24)):=below_alloc (Below.refl _ _) _
 cases b with
 | false=>
  rw[if_neg X0]at h
  obtain rfl:=Option.some.inj h
  go_enter Tryz.func33,Tryz.ntmps33
  go_wp2_with (go_at_call 68;refine(contains_right k A1 c1 l1 false _ (Kd.C_alloc hr1 _) hne hb).mono ?_;rintro e W1 ⟨rfl,hb1⟩;dsimp only[Bool.not_false])
  go_ret
  exact⟨rfl,below2 hB0 hb1⟩
 | true=>
  rw[if_pos rfl]at h
  by_cases c:a0=41
  ·rw[if_pos c]at h
   obtain rfl:=Option.some.inj h
   subst c
   go_enter Tryz.func33,Tryz.ntmps33
   go_wp2_with (go_at_call 68;refine(contains_right k A1 c1 l1 true _ (Kd.C_alloc hr1 _) hne hb).mono ?_;rintro e W1 ⟨rfl,hb1⟩;dsimp only[Bool.not_true])
   go_ret
   exact⟨rfl,below2 hB0 hb1⟩
  rw[if_neg c]at h
  have cb:(a0 != 41)=true:=by simpa using c
  cases hw:wideB l1 with
  | true=>
   rw[hw,if_pos rfl]at h
   obtain rfl:=Option.some.inj h
   go_enter Tryz.func33,Tryz.ntmps33
   go_wp2_with (first
    | (go_at_call 68;refine(contains_wide w.heap.size A1 c1 l1 _ hbx hC1.out hne).mono ?_;rintro e W2 ⟨rfl,hb2⟩;rw[hw])
    | (go_at_call 68;refine(contains_right k A1 c1 l1 true _ (Kd.C_alloc hr1 _) hne hb).mono ?_;rintro e W1 ⟨rfl,hb1⟩;dsimp only[Bool.not_true];have hbx:=below_cell hb1 hbox;have hC1:=Aside0.mk (Kd.C_below (Kd.C_alloc hr1 _) hb1)))
   go_ret
   exact⟨rfl,below2 (below2 hB0 hb1) hb2⟩
  | false=>
   rw[hw,if_neg X0]at h
   obtain rfl:=Option.some.inj h
   go_enter Tryz.func33,Tryz.ntmps33
   go_wp2_with (first
    | (go_at_call 68;refine(contains_wide w.heap.size A1 c1 l1 _ hbx hC1.out hne).mono ?_;rintro e W2 ⟨rfl,hb2⟩;rw[hw])
    | (go_at_call 68;refine(contains_right k A1 c1 l1 true _ (Kd.C_alloc hr1 _) hne hb).mono ?_;rintro e W1 ⟨rfl,hb1⟩;dsimp only[Bool.not_true];have hbx:=below_cell hb1 hbox;have hC1:=Aside0.mk (Kd.C_below (Kd.C_alloc hr1 _) hb1)))
   go_ret
   exact⟨rfl,below2 (below2 hB0 hb1) hb2⟩
end Go.Proofs.YtncomlmhagaajaaGreat.PBo
end
namespace Go.Proofs.YtncomlmhagaajaaGreat.PBo
open Go.RowKit Go.Proofs.YtncomlmhagaajaaGreatW.PrintWords Go.Proofs.YtncomlmhagaajaaGreatW.PrintLast Go.Proofs.YtncomlmhagaajaaGreatW.PrintMore
open Go.Proofs.YtncomlmhagaajaaGreat.Mine
attribute [local go_sem] max2_int min2_int max_two min_two max_three min_three max_four min_four
mutual
def bits_Holds.j0:Nat→Int→Bool→Int→List Int→Int→List Int→Option (Bool×Int)
 | 0,_,_,_,_,_,_=>none
 | k+1,x0,x15,x798000,x798001,x799000,x799001=>if x15=true then(some (false,50)) else((bits_vectors.f k x0 (([(⟨x798000,x798001⟩:S28),(⟨x799000,x799001⟩:S28)]:List (S28)))).bind fun t802=>(if t802=0 then((bits_u.f k x798000 x798001).bind fun bt803=>((bits_u.f k x799000 x799001).bind fun bt807=>((whole_Cmp.f k bt803.1 bt803.2 bt807.1 bt807.2).bind fun t811=>(if x0≥72 then((bits_s.f k x798000 x798001).bind fun bt812=>((bits_s.f k x799000 x799001).bind fun bt816=>((whole_Cmp.f k bt812.1 bt812.2 bt816.1 bt816.2).bind fun t820=>(bits_Holds.j1 k (wrap64 (x0+(-4))) t820)))) else(bits_Holds.j1 k x0 t811))))) else(some (false,t802))))
def bits_Holds.j1:Nat→Int→Int→Option (Bool×Int)
 | 0,_,_=>none
 | k+1,x0,x9=>if x0=68 then(some (decide (x9<0),0)) else(if x0=69 then(some (decide (x9≤0),0)) else(if x0=70 then(some (decide (x9>0),0)) else(some (decide (x9≥0),0))))
end
def bits_Holds.f (k:Nat) (a0:Int) (a1_0:Int) (l1_1:List Int) (a2_0:Int) (l2_1:List Int):Option (Bool×Int):=if a0<68 then(bits_Holds.j0 k a0 true a1_0 l1_1 a2_0 l2_1) else(bits_Holds.j0 k a0 (decide (a0>75)) a1_0 l1_1 a2_0 l2_1)
theorem bits_Holds.mono_l:∀k,(∀y0 y1 y2 y3 y4 y5,LeO (bits_Holds.j0 k y0 y1 y2 y3 y4 y5) (bits_Holds.j0 (k+1) y0 y1 y2 y3 y4 y5))∧(∀y0 y1,LeO (bits_Holds.j1 k y0 y1) (bits_Holds.j1 (k+1) y0 y1))
 | 0=>⟨fun _ _ _ _ _ _ r h=>by simp[bits_Holds.j0]at h,fun _ _ r h=>by simp[bits_Holds.j1]at h⟩
 | k+1=>by
  obtain⟨ih0,ih1⟩:=bits_Holds.mono_l k
  refine⟨?_,?_⟩
  ·intro y0 y1 y2 y3 y4 y5
   unfold bits_Holds.j0
   repeat' first
   | (with_reducible exact ih0 _ _ _ _ _ _)
   | (with_reducible exact ih1 _ _)
   | (with_reducible exact bits_s.mono _ _ _)
   | (with_reducible exact bits_u.mono _ _ _)
   | (with_reducible exact bits_vectors.mono _ _ _)
   | (with_reducible exact whole_Cmp.mono _ _ _ _ _)
   | (with_reducible exact LeO.refl _)
   | (with_reducible exact LeO.none _)
   | (with_reducible refine LeO.ite ?_ ?_)
   | (with_reducible refine LeO.bind ?_ (fun _=>?_))
   | exact ih0 _ _ _ _ _ _
   | exact ih1 _ _
   | exact bits_s.mono _ _ _
   | exact bits_u.mono _ _ _
   | exact bits_vectors.mono _ _ _
   | exact whole_Cmp.mono _ _ _ _ _
   | exact LeO.none _
   | refine LeO.ite ?_ ?_
   | refine LeO.bind ?_ (fun _=>?_)
  intro y0 y1
  unfold bits_Holds.j1
  repeat' first
  | (with_reducible exact ih0 _ _ _ _ _ _)
  | (with_reducible exact ih1 _ _)
  | (with_reducible exact bits_s.mono _ _ _)
  | (with_reducible exact bits_u.mono _ _ _)
  | (with_reducible exact bits_vectors.mono _ _ _)
  | (with_reducible exact whole_Cmp.mono _ _ _ _ _)
  | (with_reducible exact LeO.refl _)
  | (with_reducible exact LeO.none _)
  | (with_reducible refine LeO.ite ?_ ?_)
  | (with_reducible refine LeO.bind ?_ (fun _=>?_))
  | exact ih0 _ _ _ _ _ _
  | exact ih1 _ _
  | exact bits_s.mono _ _ _
  | exact bits_u.mono _ _ _
  | exact bits_vectors.mono _ _ _
  | exact whole_Cmp.mono _ _ _ _ _
  | exact LeO.none _
  | refine LeO.ite ?_ ?_
  | refine LeO.bind ?_ (fun _=>?_)
theorem bits_Holds.mono:∀a0 a1 a2 a3 a4 k,LeO (bits_Holds.f k a0 a1 a2 a3 a4) (bits_Holds.f (k+1) a0 a1 a2 a3 a4):=by
 intro a0 a1 a2 a3 a4 k
 obtain⟨ih0,ih1⟩:=bits_Holds.mono_l k
 unfold bits_Holds.f
 repeat' first
   | (with_reducible exact ih0 _ _ _ _ _ _)
   | (with_reducible exact ih1 _ _)
   | (with_reducible exact bits_s.mono _ _ _)
   | (with_reducible exact bits_u.mono _ _ _)
   | (with_reducible exact bits_vectors.mono _ _ _)
   | (with_reducible exact whole_Cmp.mono _ _ _ _ _)
   | (with_reducible exact LeO.refl _)
   | (with_reducible exact LeO.none _)
   | (with_reducible refine LeO.ite ?_ ?_)
   | (with_reducible refine LeO.bind ?_ (fun _=>?_))
   | exact ih0 _ _ _ _ _ _
   | exact ih1 _ _
   | exact bits_s.mono _ _ _
   | exact bits_u.mono _ _ _
   | exact bits_vectors.mono _ _ _
   | exact whole_Cmp.mono _ _ _ _ _
   | exact LeO.none _
   | refine LeO.ite ?_ ?_
   | refine LeO.bind ?_ (fun _=>?_)
theorem bits_Holds.calls (k:Nat) (a0:Int) (aj:Int) (P1_1_:Nat→Prop) (ap:Option Addr) (aq:Nat) (af:List Int) (ag:Int) (P2_1_:Nat→Prop) (ar:Option Addr) (au:Nat) (ae:List Int) (r1:Bool) (r2:Int) (w:World) (bz:Kd.V (Kd.int .u64) 48 w w.heap.size (fun k_=>P1_1_ k_) (.slice ap af.length aq) af) (bA:Kd.V (Kd.int .u64) 48 w w.heap.size (fun k_=>P2_1_ k_) (.slice ar ae.length au) ae) (h:bits_Holds.f k a0 aj af ag ae=some (r1,r2)) :
  Calls Tryz.prog 15 #[.int .i64 a0,.agg #[.int .i64 aj,.slice ap af.length aq],.agg #[.int .i64 ag,.slice ar ae.length au]] w fun e w'=>e=.returned (.tuple #[.bool r1,.int .i64 r2])∧Below w.heap.size w w':=by
 have ck:=Tryz.underlying28
 have HO1_1:=Aside0.mk (show Kd.V (Kd.int .u64) 48 w w.heap.size (fun k_=>((P1_1_ k_∨P2_1_ k_)∨w.heap.size≤k_)) (.slice ap af.length aq) af from Kd.V_mono bz (fun k_ hk=>.inl (.inl hk)))
 have HO2_1:=Aside0.mk (show Kd.V (Kd.int .u64) 48 w w.heap.size (fun k_=>((P1_1_ k_∨P2_1_ k_)∨w.heap.size≤k_)) (.slice ar ae.length au) ae from Kd.V_mono bA (fun k_ hk=>.inl (.inr hk)))
 have HB:=Aside0.mk (Below.refl w.heap.size w)
 have H:(if a0<68 then(bits_Holds.j0 k a0 true aj af ag ae) else(bits_Holds.j0 k a0 (decide (a0>75)) aj af ag ae))=some (r1,r2):=h
 clear h
 have HC4:=Aside0.mk H
 clear H
 go_enter Tryz.func15,Tryz.ntmps15
 go_upto_region 1 with(first|(refine gd 4 rfl ?_;refine kbe 4 #[.int .i64 aj,.slice ap af.length aq] 28 ?_;intro ah hg w5 hbox hb;replace HO1_1:=Aside0.mk (Kd.V_below (Kd.V_elderB (kvu HO1_1.out) ah (Nat.le_of_eq hg.symm)) hb);replace HO2_1:=Aside0.mk (Kd.V_below (Kd.V_elderB (kvu HO2_1.out) ah (Nat.le_of_eq hg.symm)) hb);have ac:=Aside0.mk (hbox);have ce:=kbz hg HB;have az:=kbz hg HB;replace HB:=kbs HB hb;clear hb hbox hg)|(refine gd 5 rfl ?_;refine kbe 5 #[.int .i64 ag,.slice ar ae.length au] 28 ?_;intro ai hg w6 hbox hb;replace HO1_1:=Aside0.mk (Kd.V_below (Kd.V_elderB (kvu HO1_1.out) ai (Nat.le_of_eq hg.symm)) hb);replace HO2_1:=Aside0.mk (Kd.V_below (Kd.V_elderB (kvu HO2_1.out) ai (Nat.le_of_eq hg.symm)) hb);have ad:=Aside0.mk (hbox);have cf:=kbz hg HB;have aA:=kbz hg HB;replace HB:=kbs HB hb;have aJ:=knl hg ac;have aK:=kng hg ac;replace ac:=kbb ac hb;clear hb hbox hg))
 (try simp only[Act.put,kss])
 go_cut [15] (fun v15 wc=>∃(kq:Nat) (aL:Bool),v15=.bool aL∧Aside0 (bits_Holds.j0 kq a0 aL aj af ag ae=some (r1,r2))∧Aside0 (kq≤k)∧Aside0 (Kd.V (Kd.int .u64) 48 wc w.heap.size (fun k_=>((P1_1_ k_∨P2_1_ k_)∨w.heap.size≤k_)∧k_≠ah∧k_≠ai) (.slice ap af.length aq) af)∧Aside0 (Kd.V (Kd.int .u64) 48 wc w.heap.size (fun k_=>((P1_1_ k_∨P2_1_ k_)∨w.heap.size≤k_)∧k_≠ah∧k_≠ai) (.slice ar ae.length au) ae)∧Aside0 (wc.heap[ah]? = some (.cells #[.int .i64 aj,(.slice ap af.length aq)] 28 (0,0)))∧Aside0 (wc.heap[ai]? = some (.cells #[.int .i64 ag,(.slice ar ae.length au)] 28 (0,0)))∧Aside0 (Below w.heap.size w wc))
 case first=>
  have H:=HC4.out
  clear HC4
  by_cases c7:a0<68
  ·rw[if_pos c7]at H
   have aE:decide (a0<68)=true:=decide_eq_true c7
   clear c7
   (first|rw[aE]|rw[aX]|(simp only[i64_w,i32_w];rw[aE])|skip)
   have H':=Aside0.mk H
   clear H
   go_wp2
   go_meet
   case rel=>exact⟨_,(true),J0,H',⟨U3⟩,⟨U5⟩,⟨V5⟩,⟨by(with_reducible repeat (first|refine blk_drewN ?_ _|refine blk_drew ?_|refine blk_alloc ?_ _));exact ac.out⟩,⟨by(with_reducible repeat (first|refine blk_drewN ?_ _|refine blk_drew ?_|refine blk_alloc ?_ _));exact ad.out⟩,⟨by repeat (first|(with_reducible first|exact HB.out|apply below_alloc|apply pw_below_drewN|apply below_drew1|refine below_set ?_ az.out|refine below_set ?_ aA.out)|exact HB.out)⟩⟩
  rw[if_neg c7]at H
  have aE:decide (a0<68)=false:=decide_eq_false c7
  clear c7
  (first|rw[aE]|rw[aX]|(simp only[i64_w,i32_w];rw[aE])|skip)
  have H':=Aside0.mk H
  clear H
  go_wp2
  go_meet
  case rel=>exact⟨_,(decide (a0>75)),J0,H',⟨U3⟩,⟨U5⟩,⟨V5⟩,⟨by(with_reducible repeat (first|refine blk_drewN ?_ _|refine blk_drew ?_|refine blk_alloc ?_ _));exact ac.out⟩,⟨by(with_reducible repeat (first|refine blk_drewN ?_ _|refine blk_drew ?_|refine blk_alloc ?_ _));exact ad.out⟩,⟨by repeat (first|(with_reducible first|exact HB.out|apply below_alloc|apply pw_below_drewN|apply below_drew1|refine below_set ?_ az.out|refine below_set ?_ aA.out)|exact HB.out)⟩⟩
 case rest=>
  clear HC4
  try clear c1
  try clear c2
  try clear p2
  try clear c7
  try clear aE
  try clear aX
  obtain⟨kq,aL,rfl,HA,HJ3,aa,ab,ac,ad,HB⟩:=hcut
  cases kq with
  | zero=>exact absurd HA.out (by simp[bits_Holds.j0])
  | succ kj3=>
   have H:=HA.out
   clear HA
   simp only[bits_Holds.j0]at H
   by_cases c8:aL=true
   ·subst c8
    have H1:(some (false,50))=some (r1,r2):=by rw[if_pos rfl]at H;exact H
    clear H
    have H:=H1
    clear H1
    simp only[Option.some.injEq,Prod.mk.injEq]at H
    obtain⟨rfl,rfl⟩:=H
    go_wp2
    go_ret2
    exact⟨D0,by repeat (first|(with_reducible first|exact HB.out|apply below_alloc|apply pw_below_drewN|apply below_drew1|refine below_set ?_ az.out|refine below_set ?_ aA.out)|exact HB.out)⟩
   replace c8:=Bool.eq_false_iff.mpr c8
   subst c8
   have H1:((bits_vectors.f kj3 a0 (([(⟨aj,af⟩:S28),(⟨ag,ae⟩:S28)]:List (S28)))).bind fun aw=>(if aw=0 then((bits_u.f kj3 aj af).bind fun aB=>((bits_u.f kj3 ag ae).bind fun ax=>((whole_Cmp.f kj3 aB.1 aB.2 ax.1 ax.2).bind fun ay=>(if a0≥72 then((bits_s.f kj3 aj af).bind fun an=>((bits_s.f kj3 ag ae).bind fun ak=>((whole_Cmp.f kj3 an.1 an.2 ak.1 ak.2).bind fun av=>(bits_Holds.j1 kj3 (wrap64 (a0+(-4))) av)))) else(bits_Holds.j1 kj3 a0 ay))))) else(some (false,aw))))=some (r1,r2):=by rw[if_neg (show ¬(false=true) by decide)]at H;exact H
   clear H
   have H:=H1
   clear H1
   obtain⟨aN,aH⟩:∃y_:List (S28),y_=(([(⟨aj,af⟩:S28),(⟨ag,ae⟩:S28)]:List (S28))):=⟨_,rfl⟩
   replace H:((bits_vectors.f kj3 a0 aN).bind fun aw=>(if aw=0 then((bits_u.f kj3 aj af).bind fun aB=>((bits_u.f kj3 ag ae).bind fun ax=>((whole_Cmp.f kj3 aB.1 aB.2 ax.1 ax.2).bind fun ay=>(if a0≥72 then((bits_s.f kj3 aj af).bind fun an=>((bits_s.f kj3 ag ae).bind fun ak=>((whole_Cmp.f kj3 an.1 an.2 ak.1 ak.2).bind fun av=>(bits_Holds.j1 kj3 (wrap64 (a0+(-4))) av)))) else(bits_Holds.j1 kj3 a0 ay))))) else(some (false,aw))))=some (r1,r2):=by first|(rw[aH];with_reducible exact H)|(have H2_:=(Option.bind_some _ _).symm.trans H;rw[aH];with_reducible exact H2_)|(have H2_:=(Option.bind_some _ _).symm.trans H;with_reducible exact H2_)|with_reducible exact H|(rw[aH];exact H)|exact H
   have aM:=Aside0.mk aH
   clear aH
   replace H:=Option.bind_eq_some_iff.mp H
   obtain⟨aw,A90,H⟩:=H
   replace H:(if aw=0 then((bits_u.f kj3 aj af).bind fun aB=>((bits_u.f kj3 ag ae).bind fun ax=>((whole_Cmp.f kj3 aB.1 aB.2 ax.1 ax.2).bind fun ay=>(if a0≥72 then((bits_s.f kj3 aj af).bind fun an=>((bits_s.f kj3 ag ae).bind fun ak=>((whole_Cmp.f kj3 an.1 an.2 ak.1 ak.2).bind fun av=>(bits_Holds.j1 kj3 (wrap64 (a0+(-4))) av)))) else(bits_Holds.j1 kj3 a0 ay))))) else(some (false,aw)))=some (r1,r2):=H
   have A9:=Aside0.mk A90
   clear A90
   by_cases c10:aw=0
   ·rw [if_pos c10]at H
    have aZ:(aw==0)=true:=beq_iff_eq.mpr c10
    have bb:(aw != 0)=false:=bne_eq_false_iff_eq.mpr c10
    clear c10
    replace H:=Option.bind_eq_some_iff.mp H
    obtain⟨⟨aO,aP⟩,bl,H⟩:=H
    replace H:((bits_u.f kj3 ag ae).bind fun ax=>((whole_Cmp.f kj3 aO aP ax.1 ax.2).bind fun ay=>(if a0≥72 then((bits_s.f kj3 aj af).bind fun an=>((bits_s.f kj3 ag ae).bind fun ak=>((whole_Cmp.f kj3 an.1 an.2 ak.1 ak.2).bind fun av=>(bits_Holds.j1 kj3 (wrap64 (a0+(-4))) av)))) else(bits_Holds.j1 kj3 a0 ay))))=some (r1,r2):=H
    have A11:=Aside0.mk bl
    clear bl
    replace H:=Option.bind_eq_some_iff.mp H
    obtain⟨⟨aS,aT⟩,bn,H⟩:=H
    replace H:((whole_Cmp.f kj3 aO aP aS aT).bind fun ay=>(if a0≥72 then((bits_s.f kj3 aj af).bind fun an=>((bits_s.f kj3 ag ae).bind fun ak=>((whole_Cmp.f kj3 an.1 an.2 ak.1 ak.2).bind fun av=>(bits_Holds.j1 kj3 (wrap64 (a0+(-4))) av)))) else(bits_Holds.j1 kj3 a0 ay)))=some (r1,r2):=H
    have A12:=Aside0.mk bn
    clear bn
    replace H:=Option.bind_eq_some_iff.mp H
    obtain⟨ay,bo,H⟩:=H
    replace H:(if a0≥72 then((bits_s.f kj3 aj af).bind fun an=>((bits_s.f kj3 ag ae).bind fun ak=>((whole_Cmp.f kj3 an.1 an.2 ak.1 ak.2).bind fun av=>(bits_Holds.j1 kj3 (wrap64 (a0+(-4))) av)))) else(bits_Holds.j1 kj3 a0 ay))=some (r1,r2):=H
    have A13:=Aside0.mk bo
    clear bo
    have aY:=Aside0.mk H
    clear H
    have cg:=aJ.out
    have ch:=aK.out
    have bd:wc.cell? ⟨ah,0,none⟩=some (.int .i64 aj):=(blk_cell ac.out 0).trans rfl
    have be:wc.cell? ⟨ah,1,none⟩=some (.slice ap af.length aq):=(blk_cell ac.out 1).trans rfl
    have bf:=blk_frozen ac.out 0
    have bg:=blk_frozen ac.out 1
    have bh:wc.cell? ⟨ai,0,none⟩=some (.int .i64 ag):=(blk_cell ad.out 0).trans rfl
    have bi:wc.cell? ⟨ai,1,none⟩=some (.slice ar ae.length au):=(blk_cell ad.out 1).trans rfl
    have bj:=blk_frozen ad.out 0
    have bk:=blk_frozen ad.out 1
    try go_wp2_with (first|(refine gd 19 rfl ?_;refine Kd.N_lit k28 _ 28 ?hg (N':=19) ?hd (xs:=([(⟨aj,af⟩:S28),(⟨ag,ae⟩:S28)]:List (S28))) (inner:=[.int .i64 aj,.slice ap af.length aq,.int .i64 ag,.slice ar ae.length au]) (ok:=(fun k_=>((P1_1_ k_∨P2_1_ k_)∨w.heap.size≤k_)∧k_≠ah∧k_≠ai)) (okp:=(fun k_=>((P1_1_ k_∨P2_1_ k_)∨w.heap.size≤k_)∧k_≠ah∧k_≠ai)) ?hr ?hp (fun _ hk=>hk) ((show ∀k_,wc.heap.size≤k_→(fun k_=>((P1_1_ k_∨P2_1_ k_)∨w.heap.size≤k_)∧k_≠ah∧k_≠ai) k_ from fun k_ hk=>⟨(.inr (Nat.le_trans (below_size (khu HB.out)) hk)),Kd.freshB (g:=ah) (o:=.cells #[.int .i64 aj,.slice ap af.length aq] 28 (0,0)) (kbu ac.out) k_ hk,Kd.freshB (g:=ai) (o:=.cells #[.int .i64 ag,.slice ar ae.length au] 28 (0,0)) (kbu ad.out) k_ hk⟩) _ (Nat.le_refl _)) (Below.refl _ _) (Nat.le_refl _) Z1 ?_;(case hd=>rfl);(case hg=>rfl);(case hr=>first|(go_simp;done)|(go_simp;rfl));(case hp=>exact(Reps.c2 (show Kd.FK k28 _ _ (⟨aj,af⟩:S28) [.int .i64 aj,.slice ap af.length aq] from(k28_mkF _ _ (⟨aj,af⟩:S28) (Kd.V_reads' (Kd.V_mono (ok':=(fun k_=>((P1_1_ k_∨P2_1_ k_)∨w.heap.size≤k_)∧k_≠ah∧k_≠ai)) (aa.out) (fun k_ hk=>⟨hk.1,⟨hk.2.1,hk.2.2⟩⟩))).2.1 (Kd.V_F (Kd.V_mono (ok':=(fun k_=>((P1_1_ k_∨P2_1_ k_)∨w.heap.size≤k_)∧k_≠ah∧k_≠ai)) (aa.out) (fun k_ hk=>⟨hk.1,⟨hk.2.1,hk.2.2⟩⟩))))) (Reps.c2 (show Kd.FK k28 _ _ (⟨ag,ae⟩:S28) [.int .i64 ag,.slice ar ae.length au] from(k28_mkF _ _ (⟨ag,ae⟩:S28) (Kd.V_reads' (Kd.V_mono (ok':=(fun k_=>((P1_1_ k_∨P2_1_ k_)∨w.heap.size≤k_)∧k_≠ah∧k_≠ai)) (ab.out) (fun k_ hk=>⟨hk.1,⟨hk.2.1,hk.2.2⟩⟩))).2.1 (Kd.V_F (Kd.V_mono (ok':=(fun k_=>((P1_1_ k_∨P2_1_ k_)∨w.heap.size≤k_)∧k_≠ah∧k_≠ai)) (ab.out) (fun k_ hk=>⟨hk.1,⟨hk.2.1,hk.2.2⟩⟩))))) (Reps.none _ _))));intro bH w18 aF hb hg_ hnew_;clear hg_ hnew_;(first|rw[←aM.out]at aF|(simp only[Int.reduceToNat]at aF;rw[←aM.out]at aF));replace aa:=Aside0.mk (Kd.V_elder' (kvu aa.out) (Kd.N_base aF) hb);replace ab:=Aside0.mk (Kd.V_elder' (kvu ab.out) (Kd.N_base aF) hb);have HO801:=Aside0.mk (Kd.N_lower aF (below_size (khu HB.out)));replace ac:=kbb ac hb;replace ad:=kbb ad hb;replace HB:=kbs HB hb;clear hb aF;obtain⟨bI,bJ,bK⟩:=Kd.N_slice HO801.out;subst bK)|((with_reducible refine gate_callee (f:=33) rfl ?_);refine kgl (some 20) rfl rfl Tryz.func33 #[.int .i64 a0,.slice bI aN.length bJ] rfl ?_;(with_reducible refine(bits_vectors.calls kj3 a0 _ _ aN aw _ ?side1 ?side2 A9.out).mono ?_);(case side1=>repeat (first|exact(Kd.N_reads' HO801.out).2.2|(with_reducible refine Kd.C_alloc ?_ _)|(with_reducible refine Kd.C_drewN ?_ _)|(with_reducible refine Kd.C_drew ?_)));(case side2=>exact(Kd.N_reads' HO801.out).2.1);rintro e w21 ⟨rfl,hb⟩;refine⟨_,rfl,?_⟩;replace aa:=kvb aa hb;replace ab:=kvb ab hb;replace HO801:=Aside0.mk (Kd.N_below D1 hb);replace ac:=kbb ac hb;replace ad:=kbb ad hb;replace HB:=kbs HB hb;(try clear hb);(try clear hb2);(try clear hk);(try clear hi)))
    replace aa:=Aside0.mk (Kd.V_drew aa.out);replace ab:=Aside0.mk (Kd.V_drew ab.out);replace HO801:=Aside0.mk (Kd.N_drew HO801.out);replace ac:=Aside0.mk (blk_drew ac.out);replace ad:=Aside0.mk (blk_drew ad.out);replace HB:=Aside0.mk (below_drew1 HB.out)
    refine start_ (n:=6) (S:=fun w'=>w'.cell? ⟨ah,0,none⟩=some (.int .i64 aj)∧w'.cell? ⟨ah,1,none⟩=some (.slice ap af.length aq)∧w'.cell? ⟨ai,0,none⟩=some (.int .i64 ag)∧w'.cell? ⟨ai,1,none⟩=some (.slice ar ae.length au)) (ds:=[]) (bm_ 6 0) Y0 rfl rfl ⟨(blk_cell ac.out 0).trans rfl,(blk_cell ac.out 1).trans rfl,(blk_cell ad.out 0).trans rfl,(blk_cell ad.out 1).trans rfl⟩ (fun hHeld=>?_)
    generalize w21.drew=w22 at aa ab HO801 ac ad HB hHeld ⊢
    refine tk_ 0 24 ?_ (bm_ 6 1) rfl rfl Y0 (fun _ _ _ h=>h) F0 ?_ hHeld ?_ ?_ ?_
    rotate_left
    ·rintro w' ⟨s0,s1,s2,s3⟩
     go_simp
     with_reducible rfl
    rotate_left
    ·simp only[Act.put,kss,i64_w,i32_w]
     rfl
    refine tk_ 2 26 ?_ (bm_ 6 5) rfl rfl Y0 (fun _ _ _ h=>h) F0 ?_ hHeld ?_ ?_ ?_
    rotate_left
    ·rintro w' ⟨s0,s1,s2,s3⟩
     go_simp
     with_reducible rfl
    rotate_left
    ·simp only[Act.put,kss,i64_w,i32_w]
     rfl
    refine one_ (i:=1) (N:=some 25) (bm_ 6 7) rfl rfl Y0 X0 (fun K hK=>?_)
    refine kgo Tryz.func43 #[.agg #[.int .i64 aj,.slice ap af.length aq]] F0 rfl rfl ?_
    with_reducible refine(bits_u.calls kj3 aj _ _ af aO aP _ ?side1 ?side2 A11.out).mono ?_
    (case side1=>repeat (first|exact(Kd.V_reads' aa.out).2.2|(with_reducible refine Kd.C_alloc ?_ _)|(with_reducible refine Kd.C_drewN ?_ _)|(with_reducible refine Kd.C_drew ?_)))
    (case side2=>exact(Kd.V_reads' aa.out).2.1)
    rintro e w23 ⟨cl,rfl,ho0,hb⟩
    refine⟨_,rfl,?_⟩
    replace aa:=Aside0.mk (Kd.V_elder' (kvu aa.out) (Kd.R_base ho0) hb);replace ab:=Aside0.mk (Kd.V_elder' (kvu ab.out) (Kd.R_base ho0) hb);replace HO801:=Aside0.mk (Kd.N_elder' D1 (Kd.R_base ho0) hb);have al:=Aside0.mk (Kd.R_lower (Kd.R_newM (M:=fun k_=>(w.heap.size≤k_)) ho0 (below_size (khu HB.out)) (fun k_ h_=>h_)) (below_size (khu HB.out)));replace ac:=kbb ac hb;replace ad:=kbb ad hb;replace HB:=kbs HB hb
    (try clear hb);(try clear hb2);(try clear hk);(try clear hi);(try clear ho0)
    refine hK.out _ _ ⟨(blk_cell ac.out 0).trans rfl,(blk_cell ac.out 1).trans rfl,(blk_cell ad.out 0).trans rfl,(blk_cell ad.out 1).trans rfl⟩ (fun hHeld=>?_)
    clear hK K
    refine norm_ (a':=?_) ?_ ?_
    rotate_left
    ·show Act.put _ (some 25) _=_
     simp only[Act.put,kss,i64_w,i32_w]
     rfl
    refine one_ (i:=3) (N:=some 27) (bm_ 6 15) rfl rfl Y0 X0 (fun K hK=>?_)
    refine kgo Tryz.func43 #[.agg #[.int .i64 ag,.slice ar ae.length au]] F0 rfl rfl ?_
    with_reducible refine(bits_u.calls kj3 ag _ _ ae aS aT _ ?side1 ?side2 A12.out).mono ?_
    (case side1=>repeat (first|exact(Kd.V_reads' ab.out).2.2|(with_reducible refine Kd.C_alloc ?_ _)|(with_reducible refine Kd.C_drewN ?_ _)|(with_reducible refine Kd.C_drew ?_)))
    (case side2=>exact(Kd.V_reads' ab.out).2.1)
    rintro e w24 ⟨cm,rfl,ho0,hb⟩
    refine⟨_,rfl,?_⟩
    replace aa:=Aside0.mk (Kd.V_elder' (kvu aa.out) (Kd.R_base ho0) hb);replace ab:=Aside0.mk (Kd.V_elder' (kvu ab.out) (Kd.R_base ho0) hb);replace HO801:=Aside0.mk (Kd.N_elder' D1 (Kd.R_base ho0) hb);have ao:=Aside0.mk (Kd.R_lower (Kd.R_new' (Kd.R_newM (M:=fun k_=>(w.heap.size≤k_)) ho0 (below_size (khu HB.out)) (fun k_ h_=>h_)) (Kd.R_lt (kru al.out))) (below_size (khu HB.out)));replace al:=Aside0.mk (Kd.R_elder' (kru al.out) (Kd.R_base ho0) hb);replace ac:=kbb ac hb;replace ad:=kbb ad hb;replace HB:=kbs HB hb
    (try clear hb);(try clear hb2);(try clear hk);(try clear hi);(try clear ho0)
    obtain⟨bL,bM,bp⟩:=Kd.R_slice al.out
    (first|subst bp|(injection bp with f1_ f2_ f3_;have f4_:=f1_.symm;have f5_:=f3_.symm;clear f1_ f2_ f3_;subst f4_;subst f5_))
    obtain⟨bN,bO,bq⟩:=Kd.R_slice ao.out
    (first|subst bq|(injection bq with f1_ f2_ f3_;have f4_:=f1_.symm;have f5_:=f3_.symm;clear f1_ f2_ f3_;subst f4_;subst f5_))
    refine hK.out _ _ ⟨(blk_cell ac.out 0).trans rfl,(blk_cell ac.out 1).trans rfl,(blk_cell ad.out 0).trans rfl,(blk_cell ad.out 1).trans rfl⟩ (fun hHeld=>?_)
    clear hK K
    refine norm_ (a':=?_) ?_ ?_
    rotate_left
    ·show Act.put _ (some 27) _=_
     simp only[Act.put,kss,i64_w,i32_w]
     rfl
    refine one_ (i:=4) (N:=some 28) (bm_ 6 31) rfl rfl Y0 X0 (fun K hK=>?_)
    refine kgo Tryz.func28 #[.agg #[.bool aO,.slice bL aP.length bM],.agg #[.bool aS,.slice bN aT.length bO]] F0 rfl rfl ?_
    with_reducible refine(whole_Cmp.calls kj3 aO _ _ aP aS _ _ aT ay _ ?side1 ?side2 ?side3 ?side4 A13.out).mono ?_
    (case side1=>repeat (first|exact(Kd.R_reads' al.out).2.2|(with_reducible refine Kd.C_alloc ?_ _)|(with_reducible refine Kd.C_drewN ?_ _)|(with_reducible refine Kd.C_drew ?_)))
    (case side2=>exact(Kd.R_reads' al.out).2.1)
    (case side3=>repeat (first|exact(Kd.R_reads' ao.out).2.2|(with_reducible refine Kd.C_alloc ?_ _)|(with_reducible refine Kd.C_drewN ?_ _)|(with_reducible refine Kd.C_drew ?_)))
    (case side4=>exact(Kd.R_reads' ao.out).2.1)
    rintro e w27 ⟨rfl,hb⟩
    refine⟨_,rfl,?_⟩
    replace aa:=kvb aa hb;replace ab:=kvb ab hb;replace HO801:=Aside0.mk (Kd.N_below D1 hb);replace al:=krb al hb;replace ao:=krb ao hb;replace ac:=kbb ac hb;replace ad:=kbb ad hb;replace HB:=kbs HB hb
    (try clear hb);(try clear hb2);(try clear hk);(try clear hi)
    refine hK.out _ _ ⟨(blk_cell ac.out 0).trans rfl,(blk_cell ac.out 1).trans rfl,(blk_cell ad.out 0).trans rfl,(blk_cell ad.out 1).trans rfl⟩ (fun hHeld=>?_)
    clear hK K
    refine norm_ (a':=?_) ?_ ?_
    rotate_left
    ·show Act.put _ (some 28) _=_
     simp only[Act.put,kss,i64_w,i32_w]
     rfl
    refine pu_ 5 9 ?_ (bm_ 6 63) rfl rfl Y0 (fun _ _ _ h=>h) F0 ?_ ?_ ?_ ?_
    rotate_left
    ·intro w'
     go_simp
     with_reducible rfl
    rotate_left
    ·simp only[Act.put,kss,i64_w,i32_w]
     rfl
    refine done_ Y0 ?_
    go_upto_if 30 with(fail)
    go_cut [0,9] (fun v0 v9 wc=>∃(kq:Nat) (am:Int) (aU:Int),v0=.int .i64 am∧v9=.int .i64 aU∧Aside0 (bits_Holds.j1 kq am aU=some (r1,r2))∧Aside0 (kq≤kj3)∧Aside0 (Kd.V (Kd.int .u64) 48 wc w.heap.size (fun k_=>((P1_1_ k_∨P2_1_ k_)∨w.heap.size≤k_)∧k_≠ah∧k_≠ai) (.slice ap af.length aq) af)∧Aside0 (Kd.V (Kd.int .u64) 48 wc w.heap.size (fun k_=>((P1_1_ k_∨P2_1_ k_)∨w.heap.size≤k_)∧k_≠ah∧k_≠ai) (.slice ar ae.length au) ae)∧Aside0 (wc.heap[ah]? = some (.cells #[.int .i64 aj,(.slice ap af.length aq)] 28 (0,0)))∧Aside0 (wc.heap[ai]? = some (.cells #[.int .i64 ag,(.slice ar ae.length au)] 28 (0,0)))∧Aside0 (Below w.heap.size w wc))
    case first=>
     have H:=aY.out
     clear aY
     by_cases c28:a0≥72
     ·rw[if_pos c28]at H
      have aD:decide (72≤a0)=true:=decide_eq_true c28
      clear c28
      (first|rw[aD]|rw[bc]|(simp only[i64_w,i32_w];rw[aD])|skip)
      replace H:=Option.bind_eq_some_iff.mp H
      obtain⟨⟨aQ,aR⟩,br,H⟩:=H
      replace H:((bits_s.f kj3 ag ae).bind fun ak=>((whole_Cmp.f kj3 aQ aR ak.1 ak.2).bind fun av=>(bits_Holds.j1 kj3 (wrap64 (a0+(-4))) av)))=some (r1,r2):=H
      have A29:=Aside0.mk br
      clear br
      replace H:=Option.bind_eq_some_iff.mp H
      obtain⟨⟨aV,aW⟩,bu,H⟩:=H
      replace H:((whole_Cmp.f kj3 aQ aR aV aW).bind fun av=>(bits_Holds.j1 kj3 (wrap64 (a0+(-4))) av))=some (r1,r2):=H
      have A30:=Aside0.mk bu
      clear bu
      replace H:=Option.bind_eq_some_iff.mp H
      obtain⟨av,bv,H⟩:=H
      replace H:(bits_Holds.j1 kj3 (wrap64 (a0+(-4))) av)=some (r1,r2):=H
      have A31:=Aside0.mk bv
      clear bv
      have H':=Aside0.mk H
      clear H
      try go_wp2
      replace aa:=Aside0.mk (Kd.V_drew aa.out);replace ab:=Aside0.mk (Kd.V_drew ab.out);replace HO801:=Aside0.mk (Kd.N_drew HO801.out);replace al:=Aside0.mk (Kd.R_drew al.out);replace ao:=Aside0.mk (Kd.R_drew ao.out);replace ac:=Aside0.mk (blk_drew ac.out);replace ad:=Aside0.mk (blk_drew ad.out);replace HB:=Aside0.mk (below_drew1 HB.out)
      refine start_ (n:=6) (S:=fun w'=>w'.cell? ⟨ah,0,none⟩=some (.int .i64 aj)∧w'.cell? ⟨ah,1,none⟩=some (.slice ap af.length aq)∧w'.cell? ⟨ai,0,none⟩=some (.int .i64 ag)∧w'.cell? ⟨ai,1,none⟩=some (.slice ar ae.length au)) (ds:=[]) (bm_ 6 0) Y0 rfl rfl ⟨(blk_cell ac.out 0).trans rfl,(blk_cell ac.out 1).trans rfl,(blk_cell ad.out 0).trans rfl,(blk_cell ad.out 1).trans rfl⟩ (fun hHeld=>?_)
      generalize w27.drew=w32 at aa ab HO801 al ao ac ad HB hHeld ⊢
      refine tk_ 0 31 ?_ (bm_ 6 1) rfl rfl Y0 (fun _ _ _ h=>h) F0 ?_ hHeld ?_ ?_ ?_
      rotate_left
      ·rintro w' ⟨s0,s1,s2,s3⟩
       go_simp
       with_reducible rfl
      rotate_left
      ·simp only[Act.put,kss,i64_w,i32_w]
       rfl
      refine tk_ 2 33 ?_ (bm_ 6 5) rfl rfl Y0 (fun _ _ _ h=>h) F0 ?_ hHeld ?_ ?_ ?_
      rotate_left
      ·rintro w' ⟨s0,s1,s2,s3⟩
       go_simp
       with_reducible rfl
      rotate_left
      ·simp only[Act.put,kss,i64_w,i32_w]
       rfl
      refine one_ (i:=1) (N:=some 32) (bm_ 6 7) rfl rfl Y0 X0 (fun K hK=>?_)
      refine kgo Tryz.func44 #[.agg #[.int .i64 aj,.slice ap af.length aq]] F0 rfl rfl ?_
      with_reducible refine(bits_s.calls kj3 aj _ _ af aQ aR _ ?side1 ?side2 A29.out).mono ?_
      (case side1=>repeat (first|exact(Kd.V_reads' aa.out).2.2|(with_reducible refine Kd.C_alloc ?_ _)|(with_reducible refine Kd.C_drewN ?_ _)|(with_reducible refine Kd.C_drew ?_)))
      (case side2=>exact(Kd.V_reads' aa.out).2.1)
      rintro e w33 ⟨cn,rfl,ho0,hb⟩
      refine⟨_,rfl,?_⟩
      replace aa:=Aside0.mk (Kd.V_elder' (kvu aa.out) (Kd.R_base ho0) hb);replace ab:=Aside0.mk (Kd.V_elder' (kvu ab.out) (Kd.R_base ho0) hb);replace HO801:=Aside0.mk (Kd.N_elder' D1 (Kd.R_base ho0) hb);have aC:=Aside0.mk (Kd.R_lower (Kd.R_new' (Kd.R_new' (Kd.R_newM (M:=fun k_=>(w.heap.size≤k_)) ho0 (below_size (khu HB.out)) (fun k_ h_=>h_)) (Kd.R_lt (kru al.out))) (Kd.R_lt (kru ao.out))) (below_size (khu HB.out)));replace al:=Aside0.mk (Kd.R_elder' (kru al.out) (Kd.R_base ho0) hb);replace ao:=Aside0.mk (Kd.R_elder' (kru ao.out) (Kd.R_base ho0) hb);replace ac:=kbb ac hb;replace ad:=kbb ad hb;replace HB:=kbs HB hb
      (try clear hb);(try clear hb2);(try clear hk);(try clear hi);(try clear ho0)
      refine hK.out _ _ ⟨(blk_cell ac.out 0).trans rfl,(blk_cell ac.out 1).trans rfl,(blk_cell ad.out 0).trans rfl,(blk_cell ad.out 1).trans rfl⟩ (fun hHeld=>?_)
      clear hK K
      refine norm_ (a':=?_) ?_ ?_
      rotate_left
      ·show Act.put _ (some 32) _=_
       simp only[Act.put,kss,i64_w,i32_w]
       rfl
      refine one_ (i:=3) (N:=some 34) (bm_ 6 15) rfl rfl Y0 X0 (fun K hK=>?_)
      refine kgo Tryz.func44 #[.agg #[.int .i64 ag,.slice ar ae.length au]] F0 rfl rfl ?_
      with_reducible refine(bits_s.calls kj3 ag _ _ ae aV aW _ ?side1 ?side2 A30.out).mono ?_
      (case side1=>repeat (first|exact(Kd.V_reads' ab.out).2.2|(with_reducible refine Kd.C_alloc ?_ _)|(with_reducible refine Kd.C_drewN ?_ _)|(with_reducible refine Kd.C_drew ?_)))
      (case side2=>exact(Kd.V_reads' ab.out).2.1)
      rintro e w34 ⟨co,rfl,ho0,hb⟩
      refine⟨_,rfl,?_⟩
      replace aa:=Aside0.mk (Kd.V_elder' (kvu aa.out) (Kd.R_base ho0) hb);replace ab:=Aside0.mk (Kd.V_elder' (kvu ab.out) (Kd.R_base ho0) hb);replace HO801:=Aside0.mk (Kd.N_elder' D1 (Kd.R_base ho0) hb);have aI:=Aside0.mk (Kd.R_lower (Kd.R_new' (Kd.R_new' (Kd.R_new' (Kd.R_newM (M:=fun k_=>(w.heap.size≤k_)) ho0 (below_size (khu HB.out)) (fun k_ h_=>h_)) (Kd.R_lt (kru al.out))) (Kd.R_lt (kru ao.out))) (Kd.R_lt (kru aC.out))) (below_size (khu HB.out)));replace al:=Aside0.mk (Kd.R_elder' (kru al.out) (Kd.R_base ho0) hb);replace ao:=Aside0.mk (Kd.R_elder' (kru ao.out) (Kd.R_base ho0) hb);replace aC:=Aside0.mk (Kd.R_elder' (kru aC.out) (Kd.R_base ho0) hb);replace ac:=kbb ac hb;replace ad:=kbb ad hb;replace HB:=kbs HB hb
      (try clear hb);(try clear hb2);(try clear hk);(try clear hi);(try clear ho0)
      obtain⟨bP,bQ,bw⟩:=Kd.R_slice aC.out
      (first|subst bw|(injection bw with f1_ f2_ f3_;have f4_:=f1_.symm;have f5_:=f3_.symm;clear f1_ f2_ f3_;subst f4_;subst f5_))
      obtain⟨bR,bS,bx⟩:=Kd.R_slice aI.out
      (first|subst bx|(injection bx with f1_ f2_ f3_;have f4_:=f1_.symm;have f5_:=f3_.symm;clear f1_ f2_ f3_;subst f4_;subst f5_))
      refine hK.out _ _ ⟨(blk_cell ac.out 0).trans rfl,(blk_cell ac.out 1).trans rfl,(blk_cell ad.out 0).trans rfl,(blk_cell ad.out 1).trans rfl⟩ (fun hHeld=>?_)
      clear hK K
      refine norm_ (a':=?_) ?_ ?_
      rotate_left
      ·show Act.put _ (some 34) _=_
       simp only[Act.put,kss,i64_w,i32_w]
       rfl
      refine one_ (i:=4) (N:=some 35) (bm_ 6 31) rfl rfl Y0 X0 (fun K hK=>?_)
      refine kgo Tryz.func28 #[.agg #[.bool aQ,.slice bP aR.length bQ],.agg #[.bool aV,.slice bR aW.length bS]] F0 rfl rfl ?_
      with_reducible refine(whole_Cmp.calls kj3 aQ _ _ aR aV _ _ aW av _ ?side1 ?side2 ?side3 ?side4 A31.out).mono ?_
      (case side1=>repeat (first|exact(Kd.R_reads' aC.out).2.2|(with_reducible refine Kd.C_alloc ?_ _)|(with_reducible refine Kd.C_drewN ?_ _)|(with_reducible refine Kd.C_drew ?_)))
      (case side2=>exact(Kd.R_reads' aC.out).2.1)
      (case side3=>repeat (first|exact(Kd.R_reads' aI.out).2.2|(with_reducible refine Kd.C_alloc ?_ _)|(with_reducible refine Kd.C_drewN ?_ _)|(with_reducible refine Kd.C_drew ?_)))
      (case side4=>exact(Kd.R_reads' aI.out).2.1)
      rintro e w37 ⟨rfl,hb⟩
      refine⟨_,rfl,?_⟩
      replace aa:=kvb aa hb;replace ab:=kvb ab hb;replace HO801:=Aside0.mk (Kd.N_below D1 hb);replace al:=krb al hb;replace ao:=krb ao hb;replace aC:=krb aC hb;replace aI:=krb aI hb;replace ac:=kbb ac hb;replace ad:=kbb ad hb;replace HB:=kbs HB hb
      (try clear hb);(try clear hb2);(try clear hk);(try clear hi)
      refine hK.out _ _ ⟨(blk_cell ac.out 0).trans rfl,(blk_cell ac.out 1).trans rfl,(blk_cell ad.out 0).trans rfl,(blk_cell ad.out 1).trans rfl⟩ (fun hHeld=>?_)
      clear hK K
      refine norm_ (a':=?_) ?_ ?_
      rotate_left
      ·show Act.put _ (some 35) _=_
       simp only[Act.put,kss,i64_w,i32_w]
       rfl
      refine pu_ 5 9 ?_ (bm_ 6 63) rfl rfl Y0 (fun _ _ _ h=>h) F0 ?_ ?_ ?_ ?_
      rotate_left
      ·intro w'
       go_simp
       with_reducible rfl
      rotate_left
      ·simp only[Act.put,kss,i64_w,i32_w]
       rfl
      refine done_ Y0 ?_
      try go_wp2
      go_meet
      case rel=>exact⟨_,(wrap64 (a0+(-4))),(av),J0,J0,H',⟨by have:=HJ3.out;first|omega|exact Nat.le_refl _⟩,⟨by(with_reducible repeat (first|apply Kd.V_alloc|apply Kd.V_drewN|apply Kd.V_drew));exact Kd.V_mono aa.out (fun _ hk=>⟨hk.1.1.1.1.1.1,⟨hk.1.1.1.1.1.2.1,hk.1.1.1.1.1.2.2⟩⟩)⟩,⟨by(with_reducible repeat (first|apply Kd.V_alloc|apply Kd.V_drewN|apply Kd.V_drew));exact Kd.V_mono ab.out (fun _ hk=>⟨hk.1.1.1.1.1.1,⟨hk.1.1.1.1.1.2.1,hk.1.1.1.1.1.2.2⟩⟩)⟩,⟨by(with_reducible repeat (first|refine blk_drewN ?_ _|refine blk_drew ?_|refine blk_alloc ?_ _));exact ac.out⟩,⟨by(with_reducible repeat (first|refine blk_drewN ?_ _|refine blk_drew ?_|refine blk_alloc ?_ _));exact ad.out⟩,⟨by repeat (first|(with_reducible first|exact HB.out|apply below_alloc|apply pw_below_drewN|apply below_drew1|refine below_set ?_ az.out|refine below_set ?_ aA.out)|exact HB.out)⟩⟩
     rw[if_neg c28]at H
     have aD:decide (72≤a0)=false:=decide_eq_false c28
     clear c28
     (first|rw[aD]|rw[bc]|(simp only[i64_w,i32_w];rw[aD])|skip)
     have H':=Aside0.mk H
     clear H
     go_wp2
     go_meet
     case rel=>exact⟨_,(a0),(ay),J0,J0,H',⟨by have:=HJ3.out;first|omega|exact Nat.le_refl _⟩,⟨by(with_reducible repeat (first|apply Kd.V_alloc|apply Kd.V_drewN|apply Kd.V_drew));exact Kd.V_mono aa.out (fun _ hk=>⟨hk.1.1.1.1,⟨hk.1.1.1.2.1,hk.1.1.1.2.2⟩⟩)⟩,⟨by(with_reducible repeat (first|apply Kd.V_alloc|apply Kd.V_drewN|apply Kd.V_drew));exact Kd.V_mono ab.out (fun _ hk=>⟨hk.1.1.1.1,⟨hk.1.1.1.2.1,hk.1.1.1.2.2⟩⟩)⟩,⟨by(with_reducible repeat (first|refine blk_drewN ?_ _|refine blk_drew ?_|refine blk_alloc ?_ _));exact ac.out⟩,⟨by(with_reducible repeat (first|refine blk_drewN ?_ _|refine blk_drew ?_|refine blk_alloc ?_ _));exact ad.out⟩,⟨by repeat (first|(with_reducible first|exact HB.out|apply below_alloc|apply pw_below_drewN|apply below_drew1|refine below_set ?_ az.out|refine below_set ?_ aA.out)|exact HB.out)⟩⟩
    case rest=>
     clear aY
     try clear c1
     try clear c2
     try clear p2
     try clear c3
     try clear c4
     try clear p6
     try clear c7
     try clear aE
     try clear aX
     try clear c8
     try clear c10
     try clear aZ
     try clear bb
     try clear c15
     try clear c28
     try clear aD
     try clear bc
     try clear c33
     try clear bd
     try clear be
     try clear bh
     try clear bi
     try clear bf
     try clear bg
     try clear bj
     try clear bk
     try clear p2
     obtain⟨kq,am,aU,rfl,rfl,HA,cp,aa,ab,ac,ad,HB⟩:=hcut
     cases kq with
     | zero=>exact absurd HA.out (by simp[bits_Holds.j1])
     | succ cq=>
      have H:=HA.out
      clear HA
      simp only[bits_Holds.j1]at H
      by_cases c38:am=68
      ·rw[if_pos c38]at H
       have bB:(am==68)=true:=beq_iff_eq.mpr c38
       have bC:(am != 68)=false:=bne_eq_false_iff_eq.mpr c38
       clear c38
       simp only[Option.some.injEq,Prod.mk.injEq]at H
       obtain⟨rfl,rfl⟩:=H
       go_wp2
       go_ret2
       exact⟨D0,by repeat (first|(with_reducible first|exact HB.out|apply below_alloc|apply pw_below_drewN|apply below_drew1|refine below_set ?_ az.out|refine below_set ?_ aA.out)|exact HB.out)⟩
      rw[if_neg c38]at H
      have bB:(am==68)=false:=beq_eq_false_iff_ne.mpr c38
      have bC:(am != 68)=true:=bne_iff_ne.mpr c38
      by_cases c39:am=69
      ·rw[if_pos c39]at H
       have bD:(am==69)=true:=beq_iff_eq.mpr c39
       have bE:(am != 69)=false:=bne_eq_false_iff_eq.mpr c39
       clear c39
       simp only[Option.some.injEq,Prod.mk.injEq]at H
       obtain⟨rfl,rfl⟩:=H
       go_wp2
       go_ret2
       exact⟨D0,by repeat (first|(with_reducible first|exact HB.out|apply below_alloc|apply pw_below_drewN|apply below_drew1|refine below_set ?_ az.out|refine below_set ?_ aA.out)|exact HB.out)⟩
      rw[if_neg c39]at H
      have bD:(am==69)=false:=beq_eq_false_iff_ne.mpr c39
      have bE:(am != 69)=true:=bne_iff_ne.mpr c39
      by_cases c40:am=70
      ·rw[if_pos c40]at H
       have bF:(am==70)=true:=beq_iff_eq.mpr c40
       have bG:(am != 70)=false:=bne_eq_false_iff_eq.mpr c40
       clear c40
       simp only[Option.some.injEq,Prod.mk.injEq]at H
       obtain⟨rfl,rfl⟩:=H
       go_wp2
       go_ret2
       exact⟨D0,by repeat (first|(with_reducible first|exact HB.out|apply below_alloc|apply pw_below_drewN|apply below_drew1|refine below_set ?_ az.out|refine below_set ?_ aA.out)|exact HB.out)⟩
      rw[if_neg c40]at H
      have bF:(am==70)=false:=beq_eq_false_iff_ne.mpr c40
      have bG:(am != 70)=true:=bne_iff_ne.mpr c40
      simp only[Option.some.injEq,Prod.mk.injEq]at H
      obtain⟨rfl,rfl⟩:=H
      go_wp2
      go_ret2
      exact⟨D0,by repeat (first|(with_reducible first|exact HB.out|apply below_alloc|apply pw_below_drewN|apply below_drew1|refine below_set ?_ az.out|refine below_set ?_ aA.out)|exact HB.out)⟩
   rw[if_neg c10]at H
   have aZ:(aw==0)=false:=beq_eq_false_iff_ne.mpr c10
   have bb:(aw != 0)=true:=bne_iff_ne.mpr c10
   simp only[Option.some.injEq,Prod.mk.injEq]at H
   obtain⟨rfl,rfl⟩:=H
   have ci:=aJ.out
   have cj:=aK.out
   have bW:wc.cell? ⟨ah,0,none⟩=some (.int .i64 aj):=(blk_cell ac.out 0).trans rfl
   have bX:wc.cell? ⟨ah,1,none⟩=some (.slice ap af.length aq):=(blk_cell ac.out 1).trans rfl
   have bY:=blk_frozen ac.out 0
   have bZ:=blk_frozen ac.out 1
   have ca:wc.cell? ⟨ai,0,none⟩=some (.int .i64 ag):=(blk_cell ad.out 0).trans rfl
   have cb:wc.cell? ⟨ai,1,none⟩=some (.slice ar ae.length au):=(blk_cell ad.out 1).trans rfl
   have cc:=blk_frozen ad.out 0
   have cd:=blk_frozen ad.out 1
   go_wp2_with (first|(refine gd 19 rfl ?_;refine Kd.N_lit k28 _ 28 ?hg (N':=19) ?hd (xs:=([(⟨aj,af⟩:S28),(⟨ag,ae⟩:S28)]:List (S28))) (inner:=[.int .i64 aj,.slice ap af.length aq,.int .i64 ag,.slice ar ae.length au]) (ok:=(fun k_=>((P1_1_ k_∨P2_1_ k_)∨w.heap.size≤k_)∧k_≠ah∧k_≠ai)) (okp:=(fun k_=>((P1_1_ k_∨P2_1_ k_)∨w.heap.size≤k_)∧k_≠ah∧k_≠ai)) ?hr ?hp (fun _ hk=>hk) ((show ∀k_,wc.heap.size≤k_→(fun k_=>((P1_1_ k_∨P2_1_ k_)∨w.heap.size≤k_)∧k_≠ah∧k_≠ai) k_ from fun k_ hk=>⟨(.inr (Nat.le_trans (below_size (khu HB.out)) hk)),Kd.freshB (g:=ah) (o:=.cells #[.int .i64 aj,.slice ap af.length aq] 28 (0,0)) (kbu ac.out) k_ hk,Kd.freshB (g:=ai) (o:=.cells #[.int .i64 ag,.slice ar ae.length au] 28 (0,0)) (kbu ad.out) k_ hk⟩) _ (Nat.le_refl _)) (Below.refl _ _) (Nat.le_refl _) Z1 ?_;(case hd=>rfl);(case hg=>rfl);(case hr=>first|(go_simp;done)|(go_simp;rfl));(case hp=>exact(Reps.c2 (show Kd.FK k28 _ _ (⟨aj,af⟩:S28) [.int .i64 aj,.slice ap af.length aq] from(k28_mkF _ _ (⟨aj,af⟩:S28) (Kd.V_reads' (Kd.V_mono (ok':=(fun k_=>((P1_1_ k_∨P2_1_ k_)∨w.heap.size≤k_)∧k_≠ah∧k_≠ai)) (aa.out) (fun k_ hk=>⟨hk.1,⟨hk.2.1,hk.2.2⟩⟩))).2.1 (Kd.V_F (Kd.V_mono (ok':=(fun k_=>((P1_1_ k_∨P2_1_ k_)∨w.heap.size≤k_)∧k_≠ah∧k_≠ai)) (aa.out) (fun k_ hk=>⟨hk.1,⟨hk.2.1,hk.2.2⟩⟩))))) (Reps.c2 (show Kd.FK k28 _ _ (⟨ag,ae⟩:S28) [.int .i64 ag,.slice ar ae.length au] from(k28_mkF _ _ (⟨ag,ae⟩:S28) (Kd.V_reads' (Kd.V_mono (ok':=(fun k_=>((P1_1_ k_∨P2_1_ k_)∨w.heap.size≤k_)∧k_≠ah∧k_≠ai)) (ab.out) (fun k_ hk=>⟨hk.1,⟨hk.2.1,hk.2.2⟩⟩))).2.1 (Kd.V_F (Kd.V_mono (ok':=(fun k_=>((P1_1_ k_∨P2_1_ k_)∨w.heap.size≤k_)∧k_≠ah∧k_≠ai)) (ab.out) (fun k_ hk=>⟨hk.1,⟨hk.2.1,hk.2.2⟩⟩))))) (Reps.none _ _))));intro bH w44 aG hb hg_ hnew_;clear hg_ hnew_;(first|rw[←aM.out]at aG|(simp only[Int.reduceToNat]at aG;rw[←aM.out]at aG));replace aa:=Aside0.mk (Kd.V_elder' (kvu aa.out) (Kd.N_base aG) hb);replace ab:=Aside0.mk (Kd.V_elder' (kvu ab.out) (Kd.N_base aG) hb);have HO801:=Aside0.mk (Kd.N_lower aG (below_size (khu HB.out)));replace ac:=kbb ac hb;replace ad:=kbb ad hb;replace HB:=kbs HB hb;clear hb aG;obtain⟨bT,bU,bV⟩:=Kd.N_slice HO801.out;subst bV)|((with_reducible refine gate_callee (f:=33) rfl ?_);refine kgl (some 20) rfl rfl Tryz.func33 #[.int .i64 a0,.slice bT aN.length bU] rfl ?_;(with_reducible refine(bits_vectors.calls kj3 a0 _ _ aN aw _ ?side1 ?side2 A9.out).mono ?_);(case side1=>repeat (first|exact(Kd.N_reads' HO801.out).2.2|(with_reducible refine Kd.C_alloc ?_ _)|(with_reducible refine Kd.C_drewN ?_ _)|(with_reducible refine Kd.C_drew ?_)));(case side2=>exact(Kd.N_reads' HO801.out).2.1);rintro e w47 ⟨rfl,hb⟩;refine⟨_,rfl,?_⟩;replace aa:=kvb aa hb;replace ab:=kvb ab hb;replace HO801:=Aside0.mk (Kd.N_below D1 hb);replace ac:=kbb ac hb;replace ad:=kbb ad hb;replace HB:=kbs HB hb;(try clear hb);(try clear hb2);(try clear hk);(try clear hi)))
   go_ret2
   exact⟨D0,by repeat (first|(with_reducible first|exact HB.out|apply below_alloc|apply pw_below_drewN|apply below_drew1|refine below_set ?_ az.out|refine below_set ?_ aA.out)|exact HB.out)⟩
def tribunallaw09_b.f (k:Nat) (a0:Int) (a1:Int):Option (Int×List Int):=(bits_Of.f k a0 a1).bind fun bt853=>(some (bt853.1,bt853.2.1))
theorem tribunallaw09_b.mono:∀a0 a1 k,LeO (tribunallaw09_b.f k a0 a1) (tribunallaw09_b.f (k+1) a0 a1):=by
 intro a0 a1 k
 unfold tribunallaw09_b.f
 repeat' first
   | (with_reducible exact bits_Of.mono _ _ _)
   | (with_reducible exact LeO.refl _)
   | (with_reducible exact LeO.none _)
   | (with_reducible refine LeO.ite ?_ ?_)
   | (with_reducible refine LeO.bind ?_ (fun _=>?_))
   | exact bits_Of.mono _ _ _
   | exact LeO.none _
   | refine LeO.ite ?_ ?_
   | refine LeO.bind ?_ (fun _=>?_)
theorem tribunallaw09_b.calls (k:Nat) (a0:Int) (a1:Int) (r1:Int) (r2:List Int) (w:World) (h:tribunallaw09_b.f k a0 a1=some (r1,r2)) :
  Calls Tryz.prog 20 #[.int .i64 a0,.int .u64 a1] w fun e w'=>∃v1_:Value,e=.returned (.agg #[.int .i64 r1,v1_])∧Kd.R (Kd.int .u64) 48 w' w.heap.size (fun _=>True) v1_ r2∧Below w.heap.size w w':=by
 have aa:=Tryz.underlying28
 have K:=Kp.refl w
 try simp only[klv]at K
 rw[tribunallaw09_b.f]at h
 replace h:=bindA h
 obtain⟨⟨n3,x4,n5⟩,A6,h⟩:=h
 dsimp only at h
 simp only[Option.some.injEq,Prod.mk.injEq]at h
 obtain⟨rfl,rfl⟩:=h
 go_enter Tryz.func20,Tryz.ntmps20
 go_wp2_with (first|(refine gd 4 rfl ?_;refine kbk 4 #[.int .i64 0,.slice none 0 0] 28 K.u ?_;clear K;intro g1 W2 K)|(refine gd 10 rfl ?_;refine kgl (some 10) rfl rfl Tryz.func21 #[.int .i64 a0,.int .u64 a1] rfl ?_;refine(bits_Of.calls _ a0 a1 n3 x4 n5 _ A6.out).mono ?_;rintro e W9 ⟨v7,rfl,ho8,hb⟩;refine⟨_,rfl,?_⟩;replace K:=K.u.addRE hb ho8;clear hb ho8;obtain⟨P10,c11,e12⟩:=K.slice 0 rfl;subst e12)|(refine gd 5 rfl ?_;refine kbk 5 #[.int .i64 0,.slice none 0 0] 28 K.u ?_;clear K;intro g13 W14 K)|(refine gs 28 5 11 rfl ?_;refine ks2 1 (.int .i64 n3) (.slice P10 x4.length c11) K.u rfl ?_;clear K;intro W15 K;simp only[kls,klv]at K;obtain⟨ua1,ub1⟩:=K.cell2 1 rfl)|(refine gs 28 4 13 rfl ?_;clear ua1 ub1;refine ks2 0 (.int .i64 n3) (.slice P10 x4.length c11) K.u rfl ?_;clear K;intro W17 K;simp only[kls,klv]at K))
 refine bodyPost_ret (results_single rfl (.cell g1 28 #[.int .i64 n3,.slice P10 x4.length c11] (0,0) _ rfl (K.u.heap 0 rfl) Tryz.underlying28 rfl Y0 .nil)) rfl ?_
 exact⟨_,rfl,K.u.R 0 rfl,K.u.below⟩
def bits_pick.f (a0_0:Bool) (l0_1:List Int) (a1:Int):Option (Bool×List Int):=some (a0_0,l0_1)
theorem bits_pick.calls (a0_0:Bool) (P0_1_:Nat→Prop) (A0_1:Option Addr) (c0_1:Nat) (l0_1:List Int) (a1:Int) (r1:Bool) (r2:List Int) (w:World) (hs0_1:Kd.V (Kd.int .u64) 48 w w.heap.size (fun k_=>P0_1_ k_) (.slice A0_1 l0_1.length c0_1) l0_1) (h:bits_pick.f a0_0 l0_1 a1=some (r1,r2)) :
  Calls Tryz.prog 102 #[.agg #[.bool a0_0,.slice A0_1 l0_1.length c0_1],.int .i64 a1] w fun e w'=>∃v1_:Value,e=.returned (.agg #[.bool r1,v1_])∧Kd.V (Kd.int .u64) 48 w' w.heap.size (fun k_=>(P0_1_ k_∨w.heap.size≤k_)) v1_ r2∧Below w.heap.size w w':=by
 have hu43:=Tryz.underlying43
 have K:=Kp.refl w
 replace K:=K.parV (Kd.V_mono (ok':=fun k=>P0_1_ k) hs0_1 (fun _ h=>h))
 clear hs0_1
 try simp only[klv]at K
 rw[bits_pick.f]at h
 simp only[Option.some.injEq,Prod.mk.injEq]at h
 obtain⟨rfl,rfl⟩:=h
 go_enter Tryz.func102,Tryz.ntmps102
 go_wp2_with (first|(refine gd 2 rfl ?_;refine kbk 2 #[.bool a0_0,.slice A0_1 l0_1.length c0_1] 43 K.u ?_;clear K;intro g1 W2 K)|(refine gd 4 rfl ?_;refine kbk 4 #[.bool false,.slice none 0 0] 43 K.u ?_;clear K;intro g3 W4 K;obtain⟨ua0,ub0⟩:=K.cell2 0 rfl)|(refine gs 43 4 5 rfl ?_;clear ua0 ub0;refine ks2 1 (.bool a0_0) (.slice A0_1 l0_1.length c0_1) K.u rfl ?_;clear K;intro W5 K;simp only[kls,klv]at K))
 refine bodyPost_ret (results_single rfl (.cell g3 43 #[.bool a0_0,.slice A0_1 l0_1.length c0_1] (0,0) _ rfl (K.u.heap 1 rfl) Tryz.underlying43 rfl Y0 .nil)) rfl ?_
 exact⟨_,rfl,K.u.hand 0 rfl (fun k_ h=>h.elim (fun h=>.inl h) .inr),K.u.below⟩
def whole_Add.f (k:Nat) (a0_0:Bool) (l0_1:List Int) (a1_0:Bool) (l1_1:List Int):Option (Bool×List Int×Int):=(whole_of.f k a0_0 l0_1).bind fun bt1116=>((whole_of.f k a1_0 l1_1).bind fun bt1120=>((whole_number_plus.f k bt1116.1 bt1116.2 bt1120.1 bt1120.2).bind fun bt1124=>((whole_number_told.f bt1124.1 bt1124.2).bind fun bt1128=>(some (bt1128.1,bt1128.2.1,bt1128.2.2)))))
theorem whole_Add.mono:∀a0 a1 a2 a3 k,LeO (whole_Add.f k a0 a1 a2 a3) (whole_Add.f (k+1) a0 a1 a2 a3):=by
 intro a0 a1 a2 a3 k
 unfold whole_Add.f
 repeat' first
   | (with_reducible exact whole_number_plus.mono _ _ _ _ _)
   | (with_reducible exact whole_of.mono _ _ _)
   | (with_reducible exact LeO.refl _)
   | (with_reducible exact LeO.none _)
   | (with_reducible refine LeO.ite ?_ ?_)
   | (with_reducible refine LeO.bind ?_ (fun _=>?_))
   | exact whole_number_plus.mono _ _ _ _ _
   | exact whole_of.mono _ _ _
   | exact LeO.none _
   | refine LeO.ite ?_ ?_
   | refine LeO.bind ?_ (fun _=>?_)
def whole_Add.T1:Bool×List (List Nat×List Nat):=(true,[([],[]),([0],[0]),([],[]),([2,1],[2]),([1,3,3],[1,3]),([4,4],[4]),([5],[5]),([5],[5]),([6,5,0,1,2,3,4,5,6,7],[6]),([7,8,0,1,2,3,4,5,6,7,8],[7])])
def whole_Add.B1:List Nat:=[0,1,0,7,15,31,63,63,255,511]
theorem whole_Add.tab1:rtab .any (opsOf Tryz.f103 1)=whole_Add.T1:=by kernel_rfl
theorem whole_Add.bits1:waitsOk whole_Add.T1.2 whole_Add.B1=true:=by kernel_rfl
theorem whole_Add.calls (k:Nat) (ac:Bool) (ae:Option Addr) (af:Nat) (aa:List Int) (ad:Bool) (ag:Option Addr) (ah:Nat) (ab:List Int) (r1:Bool) (r2:List Int) (r3:Int) (w:World) (ai:Kd.C (Kd.int .u64) w ae aa.length aa) (aj:aa.length≤af) (ak:Kd.C (Kd.int .u64) w ag ab.length ab) (al:ab.length≤ah) (h:whole_Add.f k ac aa ad ab=some (r1,r2,r3)) :
  Calls Tryz.prog 103 #[.agg #[.bool ac,.slice ae aa.length af],.agg #[.bool ad,.slice ag ab.length ah]] w fun e w'=>∃v1_:Value,e=.returned (.tuple #[.agg #[.bool r1,v1_],.int .i64 r3])∧Kd.R (Kd.int .u64) 48 w' w.heap.size (fun _=>True) v1_ r2∧Below w.heap.size w w':=by
 have aq:=Tryz.underlying43
 have K:=Kp.refl w
 replace K:=K.parV (Kd.V_mono (ok':=fun _=>True) (Kd.V_mk (e:=48) (base:=0) aj (Kd.C_F (Kd.heap_int .u64) ai)) (fun _ h=>trivial))
 clear ai aj
 replace K:=K.parV (Kd.V_mono (ok':=fun _=>True) (Kd.V_mk (e:=48) (base:=0) al (Kd.C_F (Kd.heap_int .u64) ak)) (fun _ h=>trivial))
 clear ak al
 try simp only[klv]at K
 rw[whole_Add.f]at h
 go_enter Tryz.func103,Tryz.ntmps103
 go_wp2_with (first|(refine gd 2 rfl ?_;refine kbk 2 #[.bool ac,.slice ae aa.length af] 43 K.u ?_;clear K;intro g1 W2 K)|(refine gd 3 rfl ?_;refine kbk 3 #[.bool ad,.slice ag ab.length ah] 43 K.u ?_;clear K;intro g3 W4 K)|(refine gd 4 rfl ?_;refine kbk 4 #[.bool false,.slice none 0 0] 43 K.u ?_;clear K;intro g5 W6 K))
 replace h:=bindA h
 obtain⟨⟨x7,z8⟩,A9,h⟩:=h
 dsimp only at h
 replace h:=bindA h
 obtain⟨⟨x10,z11⟩,A12,h⟩:=h
 dsimp only at h
 replace h:=bindA h
 obtain⟨⟨x13,z14⟩,A15,h⟩:=h
 dsimp only at h
 replace h:=bindA h
 obtain⟨⟨z16,x17,n18⟩,A19,h⟩:=h
 dsimp only at h
 obtain⟨Bs,Vs,Os,hBs,hVs,hOs,K⟩:=K.abs
 have HS:Aside0 (∀l m o W,Kp w (Bs++l) m o W→W.cell? ⟨g1,0,none⟩=some (.bool ac)∧W.cell? ⟨g1,1,none⟩=some (.slice ae aa.length af)∧W.cell? ⟨g3,0,none⟩=some (.bool ad)∧W.cell? ⟨g3,1,none⟩=some (.slice ag ab.length ah)):=⟨fun l m o W K=>by rw[hBs.out]at K;exact⟨K.cell 0 rfl 0 rfl,K.cell 0 rfl 1 rfl,K.cell 1 rfl 0 rfl,K.cell 1 rfl 1 rfl⟩⟩
 refine kpstart (n:=10) (ds:=[]) (S:=fun W=>W.cell? ⟨g1,0,none⟩=some (.bool ac)∧W.cell? ⟨g1,1,none⟩=some (.slice ae aa.length af)∧W.cell? ⟨g3,0,none⟩=some (.bool ad)∧W.cell? ⟨g3,1,none⟩=some (.slice ag ab.length ah)) (bm_ 10 0) Y0 rfl rfl K (HS.out [] _ _) (fun W24 K hH=>?_)
 refine with_tabW whole_Add.tab1 whole_Add.bits1 (fun HT_ HW_=>?_)
 refine tk_ 0 6 ?_ (bm_ 10 1) rfl rfl (take_ofW HT_.out HW_.out Y0) (fun _ _ _ h=>h) F0 ?_ hH ?_ ?_ ?_
 rotate_left
 ·rintro w' ⟨s0,s1,s2,s3⟩
  go_simp
  with_reducible rfl
 rotate_left
 ·simp only[Act.put,kss,i64_w,i32_w]
  rfl
 refine tk_ 2 8 ?_ (bm_ 10 5) rfl rfl (take_ofW HT_.out HW_.out Y0) (fun _ _ _ h=>h) F0 ?_ hH ?_ ?_ ?_
 rotate_left
 ·rintro w' ⟨s0,s1,s2,s3⟩
  go_simp
  with_reducible rfl
 rotate_left
 ·simp only[Act.put,kss,i64_w,i32_w]
  rfl
 refine one_ (i:=1) (N:=some 7) (bm_ 10 7) rfl rfl (one_of HT_.out Y0) X0 (fun Kc hK=>?_)
 refine kgo Tryz.func51 #[.agg #[.bool ac,.slice ae aa.length af]] F0 rfl rfl ?_
 refine(whole_of.calls _ ac _ _ _ aa x7 z8 _ (K.V 0 (hv hVs rfl)) A9.out).mono ?_
 rintro e W' ⟨v20,rfl,am,hb⟩
 replace K:=K.addI 0 (fun _=>True) hb am (fun _ h=>h.t)
 clear hb am
 refine⟨_,rfl,hK.out _ _ (HS.out _ _ _ _ K) fun hH=>?_⟩
 clear hK Kc
 refine norm_ (a':=?_) ?_ ?_
 rotate_left
 ·show Act.put _ (some 7) _=_
  simp only[Act.put,kss,i64_w,i32_w]
  rfl
 refine one_ (i:=3) (N:=some 9) (bm_ 10 15) rfl rfl (one_of HT_.out Y0) X0 (fun Kc hK=>?_)
 refine kgo Tryz.func51 #[.agg #[.bool ad,.slice ag ab.length ah]] F0 rfl rfl ?_
 refine(whole_of.calls _ ad _ _ _ ab x10 z11 _ (K.V 1 (hv hVs rfl)) A12.out).mono ?_
 rintro e W' ⟨v21,rfl,an,hb⟩
 replace K:=K.addI 1 (fun _=>True) hb an (fun _ h=>h.t)
 clear hb an
 refine⟨_,rfl,hK.out _ _ (HS.out _ _ _ _ K) fun hH=>?_⟩
 clear hK Kc
 refine norm_ (a':=?_) ?_ ?_
 rotate_left
 ·show Act.put _ (some 9) _=_
  simp only[Act.put,kss,i64_w,i32_w]
  rfl
 refine one_ (i:=4) (N:=some 10) (bm_ 10 31) rfl rfl (one_of HT_.out Y0) X0 (fun Kc hK=>?_)
 obtain⟨P27,c28,e29⟩:=K.slice 2 (hv hVs rfl)
 subst e29
 obtain⟨P30,c31,e32⟩:=K.slice 3 (hv hVs rfl)
 subst e32
 refine kgo Tryz.func143 #[.agg #[.slice P27 x7.length c28,.bool z8],.agg #[.slice P30 x10.length c31,.bool z11]] F0 rfl rfl ?_
 refine(whole_number_plus.calls _ _ _ _ x7 z8 _ _ _ x10 z11 x13 z14 _ (K.V 2 (hv hVs rfl)) (K.V 3 (hv hVs rfl)) A15.out).mono ?_
 rintro e W' ⟨v22,rfl,ao,hb⟩
 replace K:=K.addI 2 (fun _=>True) hb ao (fun _ h=>h.elim (fun h=>h.t) fun h=>h.t)
 clear hb ao
 refine⟨_,rfl,hK.out _ _ (HS.out _ _ _ _ K) fun hH=>?_⟩
 clear hK Kc
 refine norm_ (a':=?_) ?_ ?_
 rotate_left
 ·show Act.put _ (some 10) _=_
  simp only[Act.put,kss,i64_w,i32_w]
  rfl
 refine one_ (i:=5) (N:=some 11) (bm_ 10 63) rfl rfl (one_of HT_.out Y0) X0 (fun Kc hK=>?_)
 obtain⟨P34,c35,e36⟩:=K.slice 4 (hv hVs rfl)
 subst e36
 refine kgo Tryz.func154 #[.agg #[.slice P34 x13.length c35,.bool z14]] F0 rfl rfl ?_
 refine(whole_number_told.calls _ _ x13 z14 z16 x17 n18 _ (K.C 4 (hv hVs rfl)) (K.le 4 (hv hVs rfl)) A19.out).mono ?_
 rintro e W' ⟨v23,rfl,ap,hb⟩
 replace K:=K.addRI 3 0 hb ap (lb rfl)
 clear hb ap
 refine⟨_,rfl,hK.out _ _ (HS.out _ _ _ _ K) fun hH=>?_⟩
 refine norm_ (a':=?_) ?_ ?_
 rotate_left
 ·show Act.put _ (some 11) _=_
  simp only[Act.put,kss,i64_w,i32_w]
  rfl
 refine pu_ 6 12 ?_ (bm_ 10 127) rfl rfl (any_of HT_.out Y0) (fun _ _ _ h=>h) F0 ?_ ?_ ?_ ?_
 rotate_left
 ·intro w'
  go_simp
  with_reducible rfl
 rotate_left
 ·simp only[Act.put,kss,i64_w,i32_w]
  rfl
 refine pu_ 7 13 ?_ (bm_ 10 255) rfl rfl (any_of HT_.out Y0) (fun _ _ _ h=>h) F0 ?_ ?_ ?_ ?_
 rotate_left
 ·intro w'
  go_simp
  with_reducible rfl
 rotate_left
 ·simp only[Act.put,kss,i64_w,i32_w]
  rfl
 clear hK Kc
 obtain⟨P38,c39,e40⟩:=K.slice 5 (hv hVs rfl)
 subst e40
 rw[hBs.out,hVs.out,hOs.out]at K
 simp only[kls,klv]at K
 clear hBs hVs hOs HS hH
 refine ko2 (i:=8) (bm_ 10 511) 2 (.bool z16) (.slice P38 x17.length c39) K rfl rfl rfl (one_of HT_.out Y0) X0 F0 (fun W K=>⟨K.cell 0 rfl 0 rfl,K.cell 0 rfl 1 rfl,K.cell 1 rfl 0 rfl,K.cell 1 rfl 1 rfl⟩) ?_
 clear K
 intro W41 K
 simp only[kls,klv]at K
 refine pu_ 9 5 ?_ (bm_ 10 1023) rfl rfl (any_of HT_.out Y0) (fun _ _ _ h=>h) F0 ?_ ?_ ?_ ?_
 rotate_left
 ·intro w'
  go_simp
  with_reducible rfl
 rotate_left
 ·simp only[Act.put,kss,i64_w,i32_w]
  rfl
 refine done_ (done_of HT_.out Y0) ?_
 clear HT_ HW_
 simp only[Option.some.injEq,Prod.mk.injEq]at h
 obtain⟨rfl,rfl,rfl⟩:=h
 go_wp2
 refine bodyPost_ret (results_list (rs:=[.cell 4 43,.tmp 5]) rfl Z1 (.cell g5 43 #[.bool z16,.slice P38 x17.length c39] (0,0) _ rfl (K.u.heap 2 rfl) Tryz.underlying43 rfl Y0 (.tmp .nil))) rfl ?_
 exact⟨_,rfl,K.u.R 0 rfl,K.u.below⟩
def bits_ring_2.f (k:Nat) (a0_0:Bool) (l0_1:List Int) (a1_0:Bool) (l1_1:List Int):Option (Bool×List Int):=(whole_Add.f k a0_0 l0_1 a1_0 l1_1).bind fun bt1136=>((bits_pick.f bt1136.1 bt1136.2.1 bt1136.2.2).bind fun bt1141=>(some (bt1141.1,bt1141.2)))
theorem bits_ring_2.mono:∀a0 a1 a2 a3 k,LeO (bits_ring_2.f k a0 a1 a2 a3) (bits_ring_2.f (k+1) a0 a1 a2 a3):=by
 intro a0 a1 a2 a3 k
 unfold bits_ring_2.f
 repeat' first
   | (with_reducible exact whole_Add.mono _ _ _ _ _)
   | (with_reducible exact LeO.refl _)
   | (with_reducible exact LeO.none _)
   | (with_reducible refine LeO.ite ?_ ?_)
   | (with_reducible refine LeO.bind ?_ (fun _=>?_))
   | exact whole_Add.mono _ _ _ _ _
   | exact LeO.none _
   | refine LeO.ite ?_ ?_
   | refine LeO.bind ?_ (fun _=>?_)
theorem bits_ring_2.calls (k:Nat) (ac:Bool) (ae:Option Addr) (af:Nat) (aa:List Int) (ad:Bool) (ag:Option Addr) (ah:Nat) (ab:List Int) (r1:Bool) (r2:List Int) (w:World) (ai:Kd.C (Kd.int .u64) w ae aa.length aa) (aj:aa.length≤af) (ak:Kd.C (Kd.int .u64) w ag ab.length ab) (al:ab.length≤ah) (h:bits_ring_2.f k ac aa ad ab=some (r1,r2)) :
  Calls Tryz.prog 130 #[.agg #[.bool ac,.slice ae aa.length af],.agg #[.bool ad,.slice ag ab.length ah]] w fun e w'=>∃v1_:Value,e=.returned (.agg #[.bool r1,v1_])∧Kd.V (Kd.int .u64) 48 w' w.heap.size (fun k_=>(w.heap.size≤k_)) v1_ r2∧Below w.heap.size w w':=by
 have ao:=Tryz.underlying43
 have K:=Kp.refl w
 replace K:=K.parV (Kd.V_mono (ok':=fun k=>k<w.heap.size) (Kd.V_mk (e:=48) (base:=0) aj (Kd.C_F (Kd.heap_int .u64) ai)) (fun _ h=>h))
 clear ai aj
 replace K:=K.parV (Kd.V_mono (ok':=fun k=>k<w.heap.size) (Kd.V_mk (e:=48) (base:=0) al (Kd.C_F (Kd.heap_int .u64) ak)) (fun _ h=>h))
 clear ak al
 try simp only[klv]at K
 rw[bits_ring_2.f]at h
 replace h:=bindA h
 obtain⟨⟨z7,x8,n9⟩,A10,h⟩:=h
 dsimp only at h
 replace h:=bindA h
 obtain⟨⟨z17,x18⟩,A19,h⟩:=h
 dsimp only at h
 simp only[Option.some.injEq,Prod.mk.injEq]at h
 obtain⟨rfl,rfl⟩:=h
 go_enter Tryz.func130,Tryz.ntmps130
 go_wp2_with (first|(refine gd 2 rfl ?_;refine kbk 2 #[.bool ac,.slice ae aa.length af] 43 K.u ?_;clear K;intro g1 W2 K)|(refine gd 3 rfl ?_;refine kbk 3 #[.bool ad,.slice ag ab.length ah] 43 K.u ?_;clear K;intro g3 W4 K)|(refine gd 4 rfl ?_;refine kbk 4 #[.bool false,.slice none 0 0] 43 K.u ?_;clear K;intro g5 W6 K;obtain⟨ua0,ub0⟩:=K.cell2 0 rfl;obtain⟨ua1,ub1⟩:=K.cell2 1 rfl)|(refine gd 7 rfl ?_;clear ua0 ub0 ua1 ub1;refine kgl (some 7) rfl rfl Tryz.func103 #[.agg #[.bool ac,.slice ae aa.length af],.agg #[.bool ad,.slice ag ab.length ah]] rfl ?_;refine(whole_Add.calls _ ac _ _ aa ad _ _ ab z7 x8 n9 _ (K.C 0 rfl) (K.le 0 rfl) (K.C 1 rfl) (K.le 1 rfl) A10.out).mono ?_;rintro e W13 ⟨v11,rfl,am,hb⟩;refine⟨_,rfl,?_⟩;replace K:=K.u.addRE hb am;clear hb am;obtain⟨P14,c15,e16⟩:=K.slice 2 rfl;subst e16)|(refine gd 10 rfl ?_;refine kgl (some 10) rfl rfl Tryz.func102 #[.agg #[.bool z7,.slice P14 x8.length c15],.int .i64 n9] rfl ?_;refine(bits_pick.calls z7 _ _ _ x8 n9 z17 x18 _ (K.V 2 rfl) A19.out).mono ?_;rintro e W22 ⟨v20,rfl,an,hb⟩;refine⟨_,rfl,?_⟩;replace K:=K.u.add (fun _=>False) hb an (fun _ h=>h);clear hb an;obtain⟨P23,c24,e25⟩:=K.slice 3 rfl;subst e25)|(refine gs 43 4 10 rfl ?_;refine ks2 2 (.bool z17) (.slice P23 x18.length c24) K.u rfl ?_;clear K;intro W26 K;simp only[kls,klv]at K))
 refine bodyPost_ret (results_single rfl (.cell g5 43 #[.bool z17,.slice P23 x18.length c24] (0,0) _ rfl (K.u.heap 2 rfl) Tryz.underlying43 rfl Y0 .nil)) rfl ?_
 exact⟨_,rfl,K.u.hand 3 rfl (fun _ h=>h.elim (fun h=>h.elim) id),K.u.below⟩
def whole_Of.f (k:Nat) (a0:Int):Option (Bool×List Int):=if a0<0 then((whole_trimmed.f k (([IntKind.u64.wrap (-(IntKind.u64.wrap (a0)))]:List Int))).bind fun t123=>((whole_signed.f t123 true).bind fun bt126=>((whole_number_out.f bt126.1 bt126.2).bind fun bt130=>(some (bt130.1,bt130.2))))) else((whole_trimmed.f k (([IntKind.u64.wrap (a0)]:List Int))).bind fun t137=>((whole_signed.f t137 false).bind fun bt140=>((whole_number_out.f bt140.1 bt140.2).bind fun bt144=>(some (bt144.1,bt144.2)))))
theorem whole_Of.mono:∀a0 k,LeO (whole_Of.f k a0) (whole_Of.f (k+1) a0):=by
 intro a0 k
 unfold whole_Of.f
 repeat' first
   | (with_reducible exact whole_trimmed.mono _ _)
   | (with_reducible exact LeO.refl _)
   | (with_reducible exact LeO.none _)
   | (with_reducible refine LeO.ite ?_ ?_)
   | (with_reducible refine LeO.bind ?_ (fun _=>?_))
   | exact whole_trimmed.mono _ _
   | exact LeO.none _
   | refine LeO.ite ?_ ?_
   | refine LeO.bind ?_ (fun _=>?_)
theorem whole_Of.calls (k:Nat) (a0:Int) (r1:Bool) (r2:List Int) (w:World) (h:whole_Of.f k a0=some (r1,r2)) :
  Calls Tryz.prog 110 #[.int .i64 a0] w fun e w'=>∃v1_:Value,e=.returned (.agg #[.bool r1,v1_])∧Kd.R (Kd.int .u64) 48 w' w.heap.size (fun _=>True) v1_ r2∧Below w.heap.size w w':=by
 have bu:=Tryz.underlying43
 have HB:=Aside0.mk (Below.refl w.heap.size w)
 have H:(if a0<0 then((whole_trimmed.f k (([IntKind.u64.wrap (-(IntKind.u64.wrap (a0)))]:List Int))).bind fun ai=>((whole_signed.f ai true).bind fun ag=>((whole_number_out.f ag.1 ag.2).bind fun ac=>(some (ac.1,ac.2))))) else((whole_trimmed.f k (([IntKind.u64.wrap (a0)]:List Int))).bind fun aj=>((whole_signed.f aj false).bind fun ah=>((whole_number_out.f ah.1 ah.2).bind fun ad=>(some (ad.1,ad.2))))))=some (r1,r2):=h
 clear h
 by_cases c2:a0<0
 ·rw[if_pos c2]at H
  have aS:decide (a0<0)=true:=decide_eq_true c2
  clear c2
  obtain⟨av,am⟩:∃y_:List Int,y_=(([IntKind.u64.wrap (-(IntKind.u64.wrap (a0)))]:List Int)):=⟨_,rfl⟩
  replace H:((whole_trimmed.f k av).bind fun ai=>((whole_signed.f ai true).bind fun ag=>((whole_number_out.f ag.1 ag.2).bind fun ac=>(some (ac.1,ac.2)))))=some (r1,r2):=by first|(rw[am];with_reducible exact H)|(have H2_:=(Option.bind_some _ _).symm.trans H;rw[am];with_reducible exact H2_)|(have H2_:=(Option.bind_some _ _).symm.trans H;with_reducible exact H2_)|with_reducible exact H|(rw[am];exact H)|exact H
  have aE:=Aside0.mk am
  clear am
  replace H:=Option.bind_eq_some_iff.mp H
  obtain⟨ai,A30,H⟩:=H
  replace H:((whole_signed.f ai true).bind fun ag=>((whole_number_out.f ag.1 ag.2).bind fun ac=>(some (ac.1,ac.2))))=some (r1,r2):=H
  have A3:=Aside0.mk A30
  clear A30
  replace H:=Option.bind_eq_some_iff.mp H
  obtain⟨⟨aw,ax⟩,A40,H⟩:=H
  replace H:((whole_number_out.f aw ax).bind fun ac=>(some (ac.1,ac.2)))=some (r1,r2):=H
  have A4:=Aside0.mk A40
  clear A40
  replace H:=Option.bind_eq_some_iff.mp H
  obtain⟨⟨aq,ay⟩,A50,H⟩:=H
  replace H:(some (aq,ay))=some (r1,r2):=H
  have A5:=Aside0.mk A50
  clear A50
  simp only[Option.some.injEq,Prod.mk.injEq]at H
  obtain⟨rfl,rfl⟩:=H
  go_enter Tryz.func110,Tryz.ntmps110
  go_wp2_with (first|(refine gd 2 rfl ?_;refine kbe 2 #[.bool false,.slice none 0 0] 43 ?_;intro ab hg w6 hbox hb;have aa:=Aside0.mk (hbox);have aR:=kbz hg HB;have az:=kbz hg HB;replace HB:=kbs HB hb;clear hb hbox hg)|(refine gd 11 rfl ?_;refine Kd.R_lit (Kd.int .u64) _ 48 ?hg (N:=11) ?hd (xs:=([IntKind.u64.wrap (-(IntKind.u64.wrap (a0)))]:List Int)) (inner:=[.int .u64 (IntKind.u64.wrap (-(IntKind.u64.wrap (a0))))]) (ok:=fun _=>True) (okp:=fun _=>True) ?hr ?hp (fun _ hk=>hk) trivial (Below.refl _ _) (Nat.le_refl _) Z1 ?_;(case hd=>rfl);(case hg=>rfl);(case hr=>first|(go_simp;done)|(go_simp;rfl));(case hp=>exact(Reps.one (show Kd.M (Kd.int .u64) _ _ _ (IntKind.u64.wrap (-(IntKind.u64.wrap (a0)))) [.int .u64 (IntKind.u64.wrap (-(IntKind.u64.wrap (a0))))] from rfl) (Reps.none _ _)));intro bv w7 ho8 hb hg_ hnew_;clear hg_ hnew_;(first|rw[←aE.out]at ho8|(simp only[Int.reduceToNat]at ho8;rw[←aE.out]at ho8));have ae:=Aside0.mk (Kd.R_lower ho8 (below_size (khu HB.out)));replace aa:=kbb aa hb;replace HB:=kbs HB hb;clear hb ho8;obtain⟨Ao9,co9,eo9⟩:=Kd.R_slice ae.out;subst eo9)|((with_reducible refine gate_callee (f:=93) rfl ?_);refine kgl (some 12) rfl rfl Tryz.func93 #[.slice Ao9 av.length co9] rfl ?_;(with_reducible refine(whole_trimmed.calls k (fun k_=>some k_=(.slice Ao9 av.length co9:Value).ownBlock) _ _ av ai _ ?side1 A3.out).mono ?_);(case side1=>exact Kd.R_V (Kd.R_tight rfl (Kd.R_types (ae.out) aa.out X0)));rintro e w10 ⟨bw,rfl,ho0,hb⟩;refine⟨_,rfl,?_⟩;have ak:=Aside0.mk (Kd.V_lower (Kd.V_mono (ok':=fun k_=>k_≠ab) ho0 (fun k_ hk_=>Or.elim hk_ (fun hs_=>((Kd.R_types (ae.out) aa.out X0).1 k_ hs_.symm).2) (kfb aa))) (below_size (khu HB.out)));replace ae:=krb ae hb;replace aa:=kbb aa hb;replace HB:=kbs HB hb;(try clear hb);(try clear hb2);(try clear hk);(try clear hi);(try clear ho0);obtain⟨aT,aU,aV⟩:=Kd.V_slice ak.out;subst aV)|((with_reducible refine gate_callee (f:=144) rfl ?_);refine kgl (some 15) rfl rfl Tryz.func144 #[.slice aT ai.length aU,.bool true] rfl ?_;(with_reducible refine(whole_signed.calls (fun k_=>k_≠ab) _ _ ai true aw ax _ ?side1 A4.out).mono ?_);(case side1=>exact ak.out);rintro e w12 ⟨bx,rfl,ho0,hb⟩;refine⟨_,rfl,?_⟩;replace ae:=krb ae hb;replace ak:=kvb ak hb;have an:=Aside0.mk (Kd.V_lower (Kd.V_mono (ok':=fun k_=>k_≠ab) ho0 (fun k_ hk_=>Or.elim hk_ (fun hs_=>hs_) (kfb aa))) (below_size (khu HB.out)));replace aa:=kbb aa hb;replace HB:=kbs HB hb;(try clear hb);(try clear hb2);(try clear hk);(try clear hi);(try clear ho0);obtain⟨aW,aX,aY⟩:=Kd.V_slice an.out;subst aY)|((with_reducible refine gate_callee (f:=153) rfl ?_);refine kgl (some 16) rfl rfl Tryz.func153 #[.agg #[.slice aW aw.length aX,.bool ax]] rfl ?_;(with_reducible refine(whole_number_out.calls _ _ aw ax aq ay _ ?side1 ?side2 A5.out).mono ?_);(case side1=>repeat (first|exact(Kd.V_reads' an.out).2.2|(with_reducible refine Kd.C_alloc ?_ _)|(with_reducible refine Kd.C_drewN ?_ _)|(with_reducible refine Kd.C_drew ?_)));(case side2=>exact(Kd.V_reads' an.out).2.1);rintro e w14 ⟨bz,rfl,ho0,hb⟩;refine⟨_,rfl,?_⟩;replace ak:=Aside0.mk (Kd.V_elder' (kvu ak.out) (Kd.R_base ho0) hb);replace an:=Aside0.mk (Kd.V_elder' (kvu an.out) (Kd.R_base ho0) hb);have aF:=Aside0.mk (Kd.R_lower (Kd.R_new' ho0 (Kd.R_lt (kru ae.out))) (below_size (khu HB.out)));replace ae:=Aside0.mk (Kd.R_elder' (kru ae.out) (Kd.R_base ho0) hb);replace aa:=kbb aa hb;replace HB:=kbs HB hb;(try clear hb);(try clear hb2);(try clear hk);(try clear hi);(try clear ho0);have bj:w14.cell? ⟨ab,0,none⟩=some (.bool false):=(blk_cell aa.out 0).trans rfl;have bk:w14.cell? ⟨ab,1,none⟩=some (.slice none 0 0):=(blk_cell aa.out 1).trans rfl;have bl:=blk_frozen aa.out 0;have bn:=blk_frozen aa.out 1;obtain⟨aI,aJ,aZ⟩:=Kd.R_slice aF.out;subst aZ))
  refine bodyPost_ret (results_cell_row rfl _ _ ab 43 #[.bool aq,.slice aI ay.length aJ] (0,0) _ rfl (kpu #[.bool aq,.slice none 0 0] 1 (kpu #[.bool false,.slice none 0 0] 0 (kbu aa.out))) Tryz.underlying43 rfl Y0) rfl ?_
  exact⟨_,D0,by(with_reducible repeat (first|apply Kd.R_alloc|apply Kd.R_drewN|apply Kd.R_drew));exact Kd.R_mono (Kd.R_far (p:=⟨ab,1,none⟩) (Kd.R_far (p:=⟨ab,0,none⟩) (Kd.R_types aF.out aa.out X0) (fun _ hk=>hk.2) (.bool aq)) (fun _ hk=>hk.2) (.slice aI ay.length aJ)) (fun _ hk=>trivial),by repeat (first|(with_reducible first|exact HB.out|apply below_alloc|apply pw_below_drewN|apply below_drew1|refine below_set ?_ az.out)|exact HB.out)⟩
 rw[if_neg c2]at H
 have aS:decide (a0<0)=false:=decide_eq_false c2
 clear c2
 obtain⟨aA,ao⟩:∃y_:List Int,y_=(([IntKind.u64.wrap (a0)]:List Int)):=⟨_,rfl⟩
 replace H:((whole_trimmed.f k aA).bind fun aj=>((whole_signed.f aj false).bind fun ah=>((whole_number_out.f ah.1 ah.2).bind fun ad=>(some (ad.1,ad.2)))))=some (r1,r2):=by first|(rw[ao];with_reducible exact H)|(have H2_:=(Option.bind_some _ _).symm.trans H;rw[ao];with_reducible exact H2_)|(have H2_:=(Option.bind_some _ _).symm.trans H;with_reducible exact H2_)|with_reducible exact H|(rw[ao];exact H)|exact H
 have aG:=Aside0.mk ao
 clear ao
 replace H:=Option.bind_eq_some_iff.mp H
 obtain⟨aj,aK,H⟩:=H
 replace H:((whole_signed.f aj false).bind fun ah=>((whole_number_out.f ah.1 ah.2).bind fun ad=>(some (ad.1,ad.2))))=some (r1,r2):=H
 have A17:=Aside0.mk aK
 clear aK
 replace H:=Option.bind_eq_some_iff.mp H
 obtain⟨⟨aB,aC⟩,aL,H⟩:=H
 replace H:((whole_number_out.f aB aC).bind fun ad=>(some (ad.1,ad.2)))=some (r1,r2):=H
 have A18:=Aside0.mk aL
 clear aL
 replace H:=Option.bind_eq_some_iff.mp H
 obtain⟨⟨ar,aD⟩,aM,H⟩:=H
 replace H:(some (ar,aD))=some (r1,r2):=H
 have A19:=Aside0.mk aM
 clear aM
 simp only[Option.some.injEq,Prod.mk.injEq]at H
 obtain⟨rfl,rfl⟩:=H
 go_enter Tryz.func110,Tryz.ntmps110
 go_wp2_with (first|(refine gd 2 rfl ?_;refine kbe 2 #[.bool false,.slice none 0 0] 43 ?_;intro ab hg w20 hbox hb;have aa:=Aside0.mk (hbox);have aR:=kbz hg HB;have az:=kbz hg HB;replace HB:=kbs HB hb;clear hb hbox hg)|(refine gd 11 rfl ?_;refine Kd.R_lit (Kd.int .u64) _ 48 ?hg (N:=11) ?hd (xs:=([IntKind.u64.wrap (a0)]:List Int)) (inner:=[.int .u64 (IntKind.u64.wrap (a0))]) (ok:=fun _=>True) (okp:=fun _=>True) ?hr ?hp (fun _ hk=>hk) trivial (Below.refl _ _) (Nat.le_refl _) Z1 ?_;(case hd=>rfl);(case hg=>rfl);(case hr=>first|(go_simp;done)|(go_simp;rfl));(case hp=>exact(Reps.one (show Kd.M (Kd.int .u64) _ _ _ (IntKind.u64.wrap (a0)) [.int .u64 (IntKind.u64.wrap (a0))] from rfl) (Reps.none _ _)));intro bA w21 au hb hg_ hnew_;clear hg_ hnew_;(first|rw[←aG.out]at au|(simp only[Int.reduceToNat]at au;rw[←aG.out]at au));have af:=Aside0.mk (Kd.R_lower au (below_size (khu HB.out)));replace aa:=kbb aa hb;replace HB:=kbs HB hb;clear hb au;obtain⟨aN,aO,bb⟩:=Kd.R_slice af.out;subst bb)|((with_reducible refine gate_callee (f:=93) rfl ?_);refine kgl (some 12) rfl rfl Tryz.func93 #[.slice aN aA.length aO] rfl ?_;(with_reducible refine(whole_trimmed.calls k (fun k_=>some k_=(.slice aN aA.length aO:Value).ownBlock) _ _ aA aj _ ?side1 A17.out).mono ?_);(case side1=>exact Kd.R_V (Kd.R_tight rfl (Kd.R_types (af.out) aa.out X0)));rintro e w24 ⟨bB,rfl,ho0,hb⟩;refine⟨_,rfl,?_⟩;have al:=Aside0.mk (Kd.V_lower (Kd.V_mono (ok':=fun k_=>k_≠ab) ho0 (fun k_ hk_=>Or.elim hk_ (fun hs_=>((Kd.R_types (af.out) aa.out X0).1 k_ hs_.symm).2) (kfb aa))) (below_size (khu HB.out)));replace af:=krb af hb;replace aa:=kbb aa hb;replace HB:=kbs HB hb;(try clear hb);(try clear hb2);(try clear hk);(try clear hi);(try clear ho0);obtain⟨bc,bd,be⟩:=Kd.V_slice al.out;subst be)|((with_reducible refine gate_callee (f:=144) rfl ?_);refine kgl (some 15) rfl rfl Tryz.func144 #[.slice bc aj.length bd,.bool false] rfl ?_;(with_reducible refine(whole_signed.calls (fun k_=>k_≠ab) _ _ aj false aB aC _ ?side1 A18.out).mono ?_);(case side1=>exact al.out);rintro e w26 ⟨bC,rfl,ho0,hb⟩;refine⟨_,rfl,?_⟩;replace af:=krb af hb;replace al:=kvb al hb;have ap:=Aside0.mk (Kd.V_lower (Kd.V_mono (ok':=fun k_=>k_≠ab) ho0 (fun k_ hk_=>Or.elim hk_ (fun hs_=>hs_) (kfb aa))) (below_size (khu HB.out)));replace aa:=kbb aa hb;replace HB:=kbs HB hb;(try clear hb);(try clear hb2);(try clear hk);(try clear hi);(try clear ho0);obtain⟨bf,bg,bh⟩:=Kd.V_slice ap.out;subst bh)|((with_reducible refine gate_callee (f:=153) rfl ?_);refine kgl (some 16) rfl rfl Tryz.func153 #[.agg #[.slice bf aB.length bg,.bool aC]] rfl ?_;(with_reducible refine(whole_number_out.calls _ _ aB aC ar aD _ ?side1 ?side2 A19.out).mono ?_);(case side1=>repeat (first|exact(Kd.V_reads' ap.out).2.2|(with_reducible refine Kd.C_alloc ?_ _)|(with_reducible refine Kd.C_drewN ?_ _)|(with_reducible refine Kd.C_drew ?_)));(case side2=>exact(Kd.V_reads' ap.out).2.1);rintro e w28 ⟨bD,rfl,ho0,hb⟩;refine⟨_,rfl,?_⟩;replace al:=Aside0.mk (Kd.V_elder' (kvu al.out) (Kd.R_base ho0) hb);replace ap:=Aside0.mk (Kd.V_elder' (kvu ap.out) (Kd.R_base ho0) hb);have aH:=Aside0.mk (Kd.R_lower (Kd.R_new' ho0 (Kd.R_lt (kru af.out))) (below_size (khu HB.out)));replace af:=Aside0.mk (Kd.R_elder' (kru af.out) (Kd.R_base ho0) hb);replace aa:=kbb aa hb;replace HB:=kbs HB hb;(try clear hb);(try clear hb2);(try clear hk);(try clear hi);(try clear ho0);have bo:w28.cell? ⟨ab,0,none⟩=some (.bool false):=(blk_cell aa.out 0).trans rfl;have bp:w28.cell? ⟨ab,1,none⟩=some (.slice none 0 0):=(blk_cell aa.out 1).trans rfl;have bq:=blk_frozen aa.out 0;have br:=blk_frozen aa.out 1;obtain⟨aP,aQ,bi⟩:=Kd.R_slice aH.out;subst bi))
 refine bodyPost_ret (results_cell_row rfl _ _ ab 43 #[.bool ar,.slice aP aD.length aQ] (0,0) _ rfl (kpu #[.bool ar,.slice none 0 0] 1 (kpu #[.bool false,.slice none 0 0] 0 (kbu aa.out))) Tryz.underlying43 rfl Y0) rfl ?_
 exact⟨_,D0,by(with_reducible repeat (first|apply Kd.R_alloc|apply Kd.R_drewN|apply Kd.R_drew));exact Kd.R_mono (Kd.R_far (p:=⟨ab,1,none⟩) (Kd.R_far (p:=⟨ab,0,none⟩) (Kd.R_types aH.out aa.out X0) (fun _ hk=>hk.2) (.bool ar)) (fun _ hk=>hk.2) (.slice aP aD.length aQ)) (fun _ hk=>trivial),by repeat (first|(with_reducible first|exact HB.out|apply below_alloc|apply pw_below_drewN|apply below_drew1|refine below_set ?_ az.out)|exact HB.out)⟩
def bits_truth.f (k:Nat) (a0:Bool):Option (Bool×List Int):=if a0=true then((whole_Of.f k 1).bind fun bt1146=>(some (bt1146.1,bt1146.2))) else((whole_Of.f k 0).bind fun bt1150=>(some (bt1150.1,bt1150.2)))
theorem bits_truth.mono:∀a0 k,LeO (bits_truth.f k a0) (bits_truth.f (k+1) a0):=by
 intro a0 k
 unfold bits_truth.f
 repeat' first
   | (with_reducible exact whole_Of.mono _ _)
   | (with_reducible exact LeO.refl _)
   | (with_reducible exact LeO.none _)
   | (with_reducible refine LeO.ite ?_ ?_)
   | (with_reducible refine LeO.bind ?_ (fun _=>?_))
   | exact whole_Of.mono _ _
   | exact LeO.none _
   | refine LeO.ite ?_ ?_
   | refine LeO.bind ?_ (fun _=>?_)
theorem bits_truth.calls (k:Nat) (a0:Bool) (r1:Bool) (r2:List Int) (w:World) (h:bits_truth.f k a0=some (r1,r2)) :
  Calls Tryz.prog 134 #[.bool a0] w fun e w'=>∃v1_:Value,e=.returned (.agg #[.bool r1,v1_])∧Kd.R (Kd.int .u64) 48 w' w.heap.size (fun _=>True) v1_ r2∧Below w.heap.size w w':=by
 have aa:=Tryz.underlying43
 have K:=Kp.refl w
 try simp only[klv]at K
 rw[bits_truth.f]at h
 by_cases c_0:a0=true
 ·subst c_0
  rw[if_pos rfl]at h
  replace h:=bindA h
  obtain⟨⟨z3,x4⟩,A5,h⟩:=h
  dsimp only at h
  simp only[Option.some.injEq,Prod.mk.injEq]at h
  obtain⟨rfl,rfl⟩:=h
  go_enter Tryz.func134,Tryz.ntmps134
  go_wp2_with (first|(refine gd 2 rfl ?_;refine kbk 2 #[.bool false,.slice none 0 0] 43 K.u ?_;clear K;intro g1 W2 K)|(refine gd 4 rfl ?_;refine kgl (some 4) rfl rfl Tryz.func110 #[.int .i64 1] rfl ?_;refine(whole_Of.calls _ 1 z3 x4 _ A5.out).mono ?_;rintro e W8 ⟨v6,rfl,ho7,hb⟩;refine⟨_,rfl,?_⟩;replace K:=K.u.addRE hb ho7;clear hb ho7;obtain⟨P9,c10,e11⟩:=K.slice 0 rfl;subst e11)|(refine gs 43 2 4 rfl ?_;refine ks2 0 (.bool z3) (.slice P9 x4.length c10) K.u rfl ?_;clear K;intro W12 K;simp only[kls,klv]at K))
  refine bodyPost_ret (results_single rfl (.cell g1 43 #[.bool z3,.slice P9 x4.length c10] (0,0) _ rfl (K.u.heap 0 rfl) Tryz.underlying43 rfl Y0 .nil)) rfl ?_
  exact⟨_,rfl,K.u.R 0 rfl,K.u.below⟩
 replace c_0:=Bool.eq_false_iff.mpr c_0
 subst c_0
 rw[if_neg X0]at h
 replace h:=bindA h
 obtain⟨⟨z3,x4⟩,A5,h⟩:=h
 dsimp only at h
 simp only[Option.some.injEq,Prod.mk.injEq]at h
 obtain⟨rfl,rfl⟩:=h
 go_enter Tryz.func134,Tryz.ntmps134
 go_wp2_with (first|(refine gd 2 rfl ?_;refine kbk 2 #[.bool false,.slice none 0 0] 43 K.u ?_;clear K;intro g1 W2 K)|(refine gd 5 rfl ?_;refine kgl (some 5) rfl rfl Tryz.func110 #[.int .i64 0] rfl ?_;refine(whole_Of.calls _ 0 z3 x4 _ A5.out).mono ?_;rintro e W8 ⟨v6,rfl,ho7,hb⟩;refine⟨_,rfl,?_⟩;replace K:=K.u.addRE hb ho7;clear hb ho7;obtain⟨P9,c10,e11⟩:=K.slice 0 rfl;subst e11)|(refine gs 43 2 5 rfl ?_;refine ks2 0 (.bool z3) (.slice P9 x4.length c10) K.u rfl ?_;clear K;intro W12 K;simp only[kls,klv]at K))
 refine bodyPost_ret (results_single rfl (.cell g1 43 #[.bool z3,.slice P9 x4.length c10] (0,0) _ rfl (K.u.heap 0 rfl) Tryz.underlying43 rfl Y0 .nil)) rfl ?_
 exact⟨_,rfl,K.u.R 0 rfl,K.u.below⟩
def bits_ring_5.f (k:Nat) (a0_0:Bool) (l0_1:List Int) (a1_0:Bool) (l1_1:List Int):Option (Bool×List Int):=(whole_Cmp.f k a0_0 l0_1 a1_0 l1_1).bind fun t1157=>((bits_truth.f k (t1157==0)).bind fun bt1158=>(some (bt1158.1,bt1158.2)))
theorem bits_ring_5.mono:∀a0 a1 a2 a3 k,LeO (bits_ring_5.f k a0 a1 a2 a3) (bits_ring_5.f (k+1) a0 a1 a2 a3):=by
 intro a0 a1 a2 a3 k
 unfold bits_ring_5.f
 repeat' first
   | (with_reducible exact bits_truth.mono _ _)
   | (with_reducible exact whole_Cmp.mono _ _ _ _ _)
   | (with_reducible exact LeO.refl _)
   | (with_reducible exact LeO.none _)
   | (with_reducible refine LeO.ite ?_ ?_)
   | (with_reducible refine LeO.bind ?_ (fun _=>?_))
   | exact bits_truth.mono _ _
   | exact whole_Cmp.mono _ _ _ _ _
   | exact LeO.none _
   | refine LeO.ite ?_ ?_
   | refine LeO.bind ?_ (fun _=>?_)
theorem bits_ring_5.calls (k:Nat) (ac:Bool) (ae:Option Addr) (af:Nat) (aa:List Int) (ad:Bool) (ag:Option Addr) (ah:Nat) (ab:List Int) (r1:Bool) (r2:List Int) (w:World) (ai:Kd.C (Kd.int .u64) w ae aa.length aa) (aj:aa.length≤af) (ak:Kd.C (Kd.int .u64) w ag ab.length ab) (al:ab.length≤ah) (h:bits_ring_5.f k ac aa ad ab=some (r1,r2)) :
  Calls Tryz.prog 133 #[.agg #[.bool ac,.slice ae aa.length af],.agg #[.bool ad,.slice ag ab.length ah]] w fun e w'=>∃v1_:Value,e=.returned (.agg #[.bool r1,v1_])∧Kd.R (Kd.int .u64) 48 w' w.heap.size (fun _=>True) v1_ r2∧Below w.heap.size w w':=by
 have an:=Tryz.underlying43
 have K:=Kp.refl w
 replace K:=K.parV (Kd.V_mono (ok':=fun _=>True) (Kd.V_mk (e:=48) (base:=0) aj (Kd.C_F (Kd.heap_int .u64) ai)) (fun _ h=>trivial))
 clear ai aj
 replace K:=K.parV (Kd.V_mono (ok':=fun _=>True) (Kd.V_mk (e:=48) (base:=0) al (Kd.C_F (Kd.heap_int .u64) ak)) (fun _ h=>trivial))
 clear ak al
 try simp only[klv]at K
 rw[bits_ring_5.f]at h
 replace h:=bindA h
 obtain⟨n7,A8,h⟩:=h
 replace h:=bindA h
 obtain⟨⟨z10,x11⟩,A12,h⟩:=h
 dsimp only at h
 simp only[Option.some.injEq,Prod.mk.injEq]at h
 obtain⟨rfl,rfl⟩:=h
 go_enter Tryz.func133,Tryz.ntmps133
 go_wp2_with (first|(refine gd 2 rfl ?_;refine kbk 2 #[.bool ac,.slice ae aa.length af] 43 K.u ?_;clear K;intro g1 W2 K)|(refine gd 3 rfl ?_;refine kbk 3 #[.bool ad,.slice ag ab.length ah] 43 K.u ?_;clear K;intro g3 W4 K)|(refine gd 4 rfl ?_;refine kbk 4 #[.bool false,.slice none 0 0] 43 K.u ?_;clear K;intro g5 W6 K;obtain⟨ua0,ub0⟩:=K.cell2 0 rfl;obtain⟨ua1,ub1⟩:=K.cell2 1 rfl)|(refine gd 7 rfl ?_;clear ua0 ub0 ua1 ub1;refine kgl (some 7) rfl rfl Tryz.func28 #[.agg #[.bool ac,.slice ae aa.length af],.agg #[.bool ad,.slice ag ab.length ah]] rfl ?_;refine(whole_Cmp.calls _ ac _ _ aa ad _ _ ab n7 _ (K.C 0 rfl) (K.le 0 rfl) (K.C 1 rfl) (K.le 1 rfl) A8.out).mono ?_;rintro e W9 ⟨rfl,hb⟩;refine⟨_,rfl,?_⟩;replace K:=K.u.up hb;clear hb)|(refine gd 9 rfl ?_;refine kgl (some 9) rfl rfl Tryz.func134 #[.bool (n7==0)] rfl ?_;refine(bits_truth.calls _ (n7==0) z10 x11 _ A12.out).mono ?_;rintro e W15 ⟨v13,rfl,am,hb⟩;refine⟨_,rfl,?_⟩;replace K:=K.u.addRE hb am;clear hb am;obtain⟨P16,c17,e18⟩:=K.slice 2 rfl;subst e18)|(refine gs 43 4 9 rfl ?_;refine ks2 2 (.bool z10) (.slice P16 x11.length c17) K.u rfl ?_;clear K;intro W19 K;simp only[kls,klv]at K))
 refine bodyPost_ret (results_single rfl (.cell g5 43 #[.bool z10,.slice P16 x11.length c17] (0,0) _ rfl (K.u.heap 2 rfl) Tryz.underlying43 rfl Y0 .nil)) rfl ?_
 exact⟨_,rfl,K.u.R 0 rfl,K.u.below⟩
end Go.Proofs.YtncomlmhagaajaaGreat.PBo
namespace Go.Proofs.YtncomlmhagaajaaGreat.Mine
open Go Go.RowKit Go.Proofs.YtncomlmhagaajaaGreatW.PrintWords Go.Proofs.YtncomlmhagaajaaGreatW.PrintLast Go.Proofs.YtncomlmhagaajaaGreatW.PrintMore
def setL (W:World) (g:Nat):Nat→List Value→World
 | _,[]=>W
 | o,x::xs=>setL (W.setCell ⟨g,o,none⟩ x) g (o+1) xs
def putL (cs:Array Value):Nat→List Value→Array Value
 | _,[]=>cs
 | o,x::xs=>putL (cs.setIfInBounds o x) (o+1) xs
namespace Kp
variable {w W W':World} {bs bs':List Bx} {vs vs' os os':List KV} {g:Nat} {t:TypeId}
theorem putN {o:Nat} {xs:List Value}:∀ {W:World} {cs:Array Value} {bs:List Bx},Kp w bs vs os W→∀(n:Nat),bs[n]? = some (g,cs,t)→Kp w (bs.set n (g,putL cs o xs,t)) vs os (setL W g o xs):=by
 induction xs generalizing o with
 | nil=>
  intro W cs bs K n hn
  have hlt:n<bs.length:=(List.getElem?_eq_some_iff.1 hn).1
  have:bs.set n (g,cs,t)=bs:=by
   refine List.ext_getElem? fun j=>?_
   rw[List.getElem?_set]
   by_cases hj:n=j
   ·subst hj;rw[if_pos rfl,if_pos hlt,hn]
   rw[if_neg hj]
  show Kp w (bs.set n (g,cs,t)) vs os W
  rw[this];exact K
 | cons x xs ih=>
  intro W cs bs K n hn
  have hlt:n<bs.length:=(List.getElem?_eq_some_iff.1 hn).1
  have K1:=K.put n hn o x rfl
  have K2:=ih (o:=o+1) K1 n (by rw[List.getElem?_set_self hlt])
  rw[List.set_set]at K2
  exact K2
theorem cells (K:Kp w bs vs os W) (n:Nat) {cs:Array Value} (hn:bs[n]? = some (g,cs,t)):∀i x,cs[i]? = some x→W.cell? ⟨g,i,none⟩=some x:=fun i _ hx=>K.cell n hn i hx
end Kp
section
variable {P:Program} {ops:Array Oper} {Q:Exit→Act→World→Prop} {rest:List Oper} {o:Oper} {a:Act} {w W:World} {bs vs os} {g t:Nat} {cs:Array Value} {md:Region.Mode} {S:World→Prop} {ds:List Nat}
theorem kstN (n off:Nat) (xs:List Value) (K:Kp w bs vs os W) (hn:bs[n]? = some (g,cs,t))
  (hrun:(∀i x,cs[i]? = some x→W.cell? ⟨g,i,none⟩=some x)→(∀i,W.frozen? ⟨g,i,none⟩=false)→(execOp a.eval o).run P W=.ok .skip (setL W g off xs))
  (h:∀W1,Kp w (bs.set n (g,putL cs off xs,t)) vs os W1→wpList P ops Q rest a W1) (hd:o.dst=none:=by rfl) (hgd:o.guard=none:=by rfl):wpList P ops Q (o::rest) a W:=
 wpList_plain hgd fun K' hK=>by
  unfold Oper.wp
  rw[hrun (K.cells n hn) (K.fz n hn)]
  show K' (a.put o.dst undef) _
  rw[hd]
  exact hK _ _ (h _ (K.putN n hn))
end
theorem kpl:(∀(cs:Array Value) (o:Nat),putL cs o []=cs)∧(∀(cs:Array Value) (o:Nat) (x:Value) (xs:List Value),putL cs o (x::xs)=putL (cs.setIfInBounds o x) (o+1) xs):=⟨fun _ _=>rfl,fun _ _ _ _=>rfl⟩
end Go.Proofs.YtncomlmhagaajaaGreat.Mine
section
set_option maxHeartbeats 8000000
set_option maxRecDepth 100000
set_option linter.unusedVariables false
set_option linter.unusedSimpArgs false
namespace Go.Proofs.YtncomlmhagaajaaGreat.PBo
open Go Go.RowKit Go.Proofs.YtncomlmhagaajaaGreatW.PrintWords Go.Proofs.YtncomlmhagaajaaGreatW.PrintLast Go.Proofs.YtncomlmhagaajaaGreatW.PrintMore Go.Proofs.YtncomlmhagaajaaGreat.Mine
theorem kgV {P:Program} {ops:Array Oper} {Q:Exit→Act→World→Prop} {oi:Oper} {N:Option Tmp} {a:Act} {w:World} {K:Act→World→Prop} {f:FuncId} {fn:Func} {t:Tmp} {cap:Array Value} {ar:Array Operand} {ts:Array TypeId} (hf:P.funcs[f]? = some fn) (args:Array Value)
  (hw:Region.wanted oi (yielded ops a.tmps)=true) (hN:oi.dst=N) (hop:oi.op=.call {callee:=.value (.tmp t),args:=ar,argTypes:=ts}) (hv:a.eval (.tmp t)=.func (.func f) #[] cap)
  (h:Calls P f (args++cap) w fun e w'=>∃v,e=.returned v∧K (a.put N v) w') (hargs:ar.map a.eval=args:=by(try simp only[List.map_toArray,List.map_cons,List.map_nil]);first|done|rfl) (hname:(fn.name == "runtime.NumGoroutine")=false:=by kernel_rfl) (hb:fn.body.isSome=true:=by kernel_rfl) :
  if Region.wanted oi (yielded ops a.tmps)=true then Oper.wp P oi a w K Q else K (a.put N undef) w:=by
 refine call_ f (args++cap) hw hN ?_ h
 have he:=enters_ hf hname hb (args++cap) w
 have hv2:Act.eval a (.tmp t)=.func (.func f) #[] cap:=hv
 unfold execOp
 simp only[hop,resolve]
 rw[hv2,hargs]
 simp[Deferred.ofValue,invoke,he]
theorem numbers_call (n:Nat) (w:World):Calls Tryz.prog 57 #[.func (.func n) #[] #[]] w fun e w'=>∃g,g=w.heap.size∧e=.returned (.func (.func 127) #[] #[.pointer (some ⟨g,0,none⟩)])∧w'.heap[g]? = some (.cells #[.func (.func n) #[] #[]] 100 (0,0))∧Below w.heap.size w w':=by
 go_enter Tryz.func57,Tryz.ntmps57
 go_wp2_with (first|((with_reducible refine gate_dst (N:=1) rfl ?_);refine kbe 1 #[.func (.func n) #[] #[]] 100 ?_;intro g1 hg W2 hx hb))
 go_ret
 subst hg
 exact⟨_,rfl,rfl,hx,hb⟩
theorem params_0 (op:Int) (v:Value) (w:World):Calls Tryz.prog 32 #[.int .i64 op,.int .i64 0,v] w fun e w'=>e=.returned (.bool true)∧w'=w:=by
 go_enter Tryz.func32,Tryz.ntmps32
 go_wp2
 go_ret
 exact⟨rfl,rfl⟩
theorem operators_1 (p v:Value) (w:World):Calls Tryz.prog 59 #[p,v] w fun e w'=>e=.returned (.int .i64 1)∧w'=w:=by
 go_enter Tryz.func59,Tryz.ntmps59
 go_wp2
 go_ret
 exact⟨rfl,rfl⟩
def bits_apply2 (k:Nat) (go:Int→List Int→Int→List Int→Option (Bool×List Int)) (wd:Int→Int) (a0:Int):List S28→Option (Int×List Int×Int)
 | [x,y]=>(bits_vectors.f k a0 [x,y]).bind fun e=>if e=0 then(if wd x.f0>4096 then none else(go x.f0 x.f1 y.f0 y.f1).bind fun n=>((bits_of.f k (wd x.f0) n.1 n.2).bind fun r=>(some (r.1,r.2,0)))) else(some (0,[],e))
 | _=>none
theorem addBox {w W W':World} {bs:List Bx} {vs os:List KV} {g:Nat} {cs:Array Value} {t:TypeId} (K:Kp w bs vs os W) (hg:W.heap.size≤g) (hx:W'.heap[g]? = some (.cells cs t (0,0))) (hb:Below W.heap.size W W'):Kp w (bs++[(g,cs,t)]) vs os W':=by
 have K':=K.up hb
 refine⟨K'.below,fun b h=>?_,?_,fun v h=>?_,fun v h=>?_,K.sep⟩
 ·rcases List.mem_append.1 h with h|h
  ·exact K'.blk b h
  obtain rfl:=List.mem_singleton.1 h
  exact⟨Nat.le_trans (below_size K.below) hg,hx⟩
 ·rw[List.map_append,List.nodup_append]
  refine⟨K.nod,Z1,fun a ha b hb'=>?_⟩
  obtain rfl:b=g:=by simpa using hb'
  obtain⟨c,hc,rfl⟩:=List.mem_map.1 ha
  have:=blk_lt (K.blk c hc).2
  omega
 ·refine Kd.V_mono (Kd.V_below (Kd.V_elderB (K.val v h) g hg) hb) fun k hk=>⟨hk.1.1,fun b hbm=>?_⟩
  rcases List.mem_append.1 hbm with hm|hm
  ·exact hk.1.2 b hm
  obtain rfl:=List.mem_singleton.1 hm
  exact hk.2
 refine Kd.R_mono (Kd.R_below (Kd.R_elderB (K.own v h) g hg) hb) fun k hk b hbm=>?_
 rcases List.mem_append.1 hbm with hm|hm
 ·exact hk.1 b hm
 obtain rfl:=List.mem_singleton.1 hm
 exact hk.2
theorem vec_two {w:World} {A:Option Addr} {x y:S28} (h:Kd.C k28 w A 2 [x,y]):∃(bk o:Nat) (B1:Option Addr) (d1:Nat) (B2:Option Addr) (d2:Nat),A=some ⟨bk,o,none⟩ ∧
  (w.cell? ⟨bk,o,none⟩=some (.int .i64 x.f0)∧w.cell? ⟨bk,o+1,none⟩=some (.slice B1 x.f1.length d1)∧w.cell? ⟨bk,o+2,none⟩=some (.int .i64 y.f0)∧w.cell? ⟨bk,o+3,none⟩=some (.slice B2 y.f1.length d2)) ∧
  (x.f1.length≤d1∧Kd.C (Kd.int .u64) w B1 x.f1.length x.f1)∧(y.f1.length≤d2∧Kd.C (Kd.int .u64) w B2 y.f1.length y.f1):=by
 obtain⟨bk,o,F,rfl,hlt,hF,hc⟩:=vec_place (l:=[x,y]) h Z1
 have z0:0 < [x,y].length:=Nat.le_of_ble_eq_true rfl
 have z1:1 < [x,y].length:=Nat.le_of_ble_eq_true rfl
 refine⟨bk,o,(F ⟨0,z0⟩).1,(F ⟨0,z0⟩).2,(F ⟨1,z1⟩).1,(F ⟨1,z1⟩).2,rfl,⟨?_,?_,?_,?_⟩,hF ⟨0,z0⟩,hF ⟨1,z1⟩⟩
 ·have:=hc ⟨0,z0⟩ 0 _ rfl
  simpa using this
 ·have:=hc ⟨0,z0⟩ 1 _ rfl
  simpa using this
 ·have:=hc ⟨1,z1⟩ 0 _ rfl
  simpa using this
 have:=hc ⟨1,z1⟩ 1 _ rfl
 simpa [Nat.add_assoc] using this
theorem neq_nil (W:World):(binOp .neq 62 .nilFunc .nilFunc).run Tryz.prog W=.ok (.bool false) W:=by kernel_rfl
theorem neq_fun (n:Nat) (W:World):(binOp .neq 62 (.func (.func n) #[] #[]) .nilFunc).run Tryz.prog W=.ok (.bool true) W:=by kernel_rfl
def bits_numbers1_bits_ring_2.f (k:Nat) (x0:Int) (x1:List Int) (y0:Int) (y1:List Int):Option (Bool×List Int):=(bits_u.f k x0 x1).bind fun b1=>((bits_u.f k y0 y1).bind fun b2=>((bits_ring_2.f k b1.1 b1.2 b2.1 b2.2).bind fun b3=>(some (b3.1,b3.2))))
theorem bits_numbers1_bits_ring_2.calls (k:Nat) (P:Value) (bk o c g:Nat) (x0:Int) (A1:Option Addr) (c1:Nat) (x1:List Int) (y0:Int) (A2:Option Addr) (c2:Nat) (y1:List Int) (r1:Bool) (r2:List Int) (w:World) (hg:w.cell? ⟨g,0,none⟩=some (.func (.func 130) #[] #[])) (e0:w.cell? ⟨bk,o,none⟩=some (.int .i64 x0)) (e1:w.cell? ⟨bk,o+1,none⟩=some (.slice A1 x1.length c1)) (e2:w.cell? ⟨bk,o+2,none⟩=some (.int .i64 y0)) (e3:w.cell? ⟨bk,o+3,none⟩=some (.slice A2 y1.length c2))
  (hrx:Kd.C (Kd.int .u64) w A1 x1.length x1) (hcx:x1.length≤c1) (hry:Kd.C (Kd.int .u64) w A2 y1.length y1) (hcy:y1.length≤c2) (h:bits_numbers1_bits_ring_2.f k x0 x1 y0 y1=some (r1,r2)) :
  Calls Tryz.prog 127 #[P,.slice (some ⟨bk,o,none⟩) 2 c,.pointer (some ⟨g,0,none⟩)] w fun e w'=>∃v1_:Value,e=.returned (.agg #[.bool r1,v1_])∧Kd.V (Kd.int .u64) 48 w' w.heap.size (fun k_=>w.heap.size≤k_) v1_ r2∧Below w.heap.size w w':=by
 have aa:=Tryz.underlying28
 have ab:=Tryz.underlying43
 have hw1:wrap64 (1:Int)=1:=by unfold wrap64;omega
 have K:=Kp.refl w
 replace K:=K.parV (Kd.V_mono (ok':=fun _=>True) (Kd.V_mk (e:=48) (base:=0) hcx (Kd.C_F (Kd.heap_int .u64) hrx)) (fun _ h=>trivial))
 clear hrx hcx
 replace K:=K.parV (Kd.V_mono (ok':=fun _=>True) (Kd.V_mk (e:=48) (base:=0) hcy (Kd.C_F (Kd.heap_int .u64) hry)) (fun _ h=>trivial))
 clear hry hcy
 try simp only[klv]at K
 rw[bits_numbers1_bits_ring_2.f]at h
 go_enter Tryz.func127,Tryz.ntmps127
 go_wp2_with (first|((with_reducible refine gate_dst (N:=5) rfl ?_);refine kbe 5 #[.bool false,.slice none 0 0] 43 ?_;intro g1 hgg W2 hx hb;replace K:=K.u.box hgg hx hb;clear hgg hx hb))
 replace h:=bindA h
 obtain⟨⟨z3,u3⟩,A10,h⟩:=h
 dsimp only at h
 replace h:=bindA h
 obtain⟨⟨z4,u4⟩,A11,h⟩:=h
 dsimp only at h
 replace h:=bindA h
 obtain⟨⟨z5,u5⟩,A12,h⟩:=h
 dsimp only at h
 obtain⟨Bs,Vs,Os,hBs,hVs,hOs,K⟩:=K.abs
 have HS:Aside0 (∀l m o_ W,Kp w (Bs++l) m o_ W→W.cell? ⟨g,0,none⟩=some (.func (.func 130) #[] #[])∧W.cell? ⟨bk,o,none⟩=some (.int .i64 x0)∧W.cell? ⟨bk,o+1,none⟩=some (.slice A1 x1.length c1)∧W.cell? ⟨bk,o+2,none⟩=some (.int .i64 y0)∧W.cell? ⟨bk,o+3,none⟩=some (.slice A2 y1.length c2)):=⟨fun l m o_ W K=>⟨below_cell K.below hg,below_cell K.below e0,below_cell K.below e1,below_cell K.below e2,below_cell K.below e3⟩⟩
 refine kpstart (n:=14) (ds:=[]) (S:=fun W=>W.cell? ⟨g,0,none⟩=some (.func (.func 130) #[] #[])∧W.cell? ⟨bk,o,none⟩=some (.int .i64 x0)∧W.cell? ⟨bk,o+1,none⟩=some (.slice A1 x1.length c1)∧W.cell? ⟨bk,o+2,none⟩=some (.int .i64 y0)∧W.cell? ⟨bk,o+3,none⟩=some (.slice A2 y1.length c2)) #[false,false,false,false,false,false,false,false,false,false,false,false,false,false] Y0 rfl rfl K (HS.out [] _ _) (fun W15 K hH=>?_)
 refine take_ (i:=0) (N:=some 6) (v:=?_) (a':=?_) #[true,false,false,false,false,false,false,false,false,false,false,false,false,false] rfl rfl Y0 (fun _ _ _ h=>h) (Or.inl ⟨F0,?_⟩) hH ?_ ?_
 rotate_left
 ·rintro w' ⟨s0,s1,s2,s3,s4⟩
  go_simp
  with_reducible rfl
 rotate_left
 ·simp only[Act.put,kss,i64_w,i32_w]
  rfl
 refine pure_ (i:=1) (N:=some 7) (v:=?_) (a':=?_) #[true,true,false,false,false,false,false,false,false,false,false,false,false,false] rfl rfl Y0 (fun _ _ _ h=>h) (Or.inl ⟨F0,?_⟩) ?_ ?_
 rotate_left
 ·intro w'
  go_simp
  with_reducible rfl
 rotate_left
 ·simp only[Act.put,kss,i64_w,i32_w]
  rfl
 refine pure_ (i:=2) (N:=some 8) (v:=?_) (a':=?_) #[true,true,true,false,false,false,false,false,false,false,false,false,false,false] rfl rfl Y0 (fun _ _ _ h=>h) (Or.inl ⟨F0,?_⟩) ?_ ?_
 rotate_left
 ·intro w'
  go_simp
  with_reducible rfl
 rotate_left
 ·simp only[Act.put,kss,i64_w,i32_w]
  rfl
 refine take_ (i:=3) (N:=some 9) (v:=?_) (a':=?_) #[true,true,true,true,false,false,false,false,false,false,false,false,false,false] rfl rfl Y0 (fun _ _ _ h=>h) (Or.inl ⟨F0,?_⟩) hH ?_ ?_
 rotate_left
 ·rintro w' ⟨s0,s1,s2,s3,s4⟩
  go_simp
  with_reducible rfl
 rotate_left
 ·simp only[Act.put,kss,i64_w,i32_w]
  rfl
 refine pure_ (i:=5) (N:=some 11) (v:=?_) (a':=?_) #[true,true,true,true,false,true,false,false,false,false,false,false,false,false] rfl rfl Y0 (fun _ _ _ h=>h) (Or.inl ⟨F0,?_⟩) ?_ ?_
 rotate_left
 ·intro w'
  go_simp
  with_reducible rfl
 rotate_left
 ·simp only[Act.put,kss,i64_w,i32_w]
  rfl
 refine pure_ (i:=6) (N:=some 12) (v:=?_) (a':=?_) #[true,true,true,true,false,true,true,false,false,false,false,false,false,false] rfl rfl Y0 (fun _ _ _ h=>h) (Or.inl ⟨F0,?_⟩) ?_ ?_
 rotate_left
 ·intro w'
  go_simp
  with_reducible rfl
 rotate_left
 ·simp only[Act.put,kss,i64_w,i32_w]
  rfl
 refine pure_ (i:=7) (N:=some 13) (v:=?_) (a':=?_) #[true,true,true,true,false,true,true,true,false,false,false,false,false,false] rfl rfl Y0 (fun _ _ _ h=>h) (Or.inl ⟨F0,?_⟩) ?_ ?_
 rotate_left
 ·intro w'
  go_simp
  with_reducible rfl
 rotate_left
 ·simp only[Act.put,kss,i64_w,i32_w]
  rfl
 refine pure_ (i:=8) (N:=some 14) (v:=?_) (a':=?_) #[true,true,true,true,false,true,true,true,true,false,false,false,false,false] rfl rfl Y0 (fun _ _ _ h=>h) (Or.inl ⟨F0,?_⟩) ?_ ?_
 rotate_left
 ·intro w'
  go_simp
  with_reducible rfl
 rotate_left
 ·simp only[Act.put,kss,i64_w,i32_w]
  rfl
 refine pure_ (i:=9) (N:=some 15) (v:=?_) (a':=?_) #[true,true,true,true,false,true,true,true,true,true,false,false,false,false] rfl rfl Y0 (fun _ _ _ h=>h) (Or.inl ⟨F0,?_⟩) ?_ ?_
 rotate_left
 ·intro w'
  go_simp
  with_reducible rfl
 rotate_left
 ·simp only[Act.put,kss,i64_w,i32_w]
  rfl
 refine take_ (i:=10) (N:=some 16) (v:=?_) (a':=?_) #[true,true,true,true,false,true,true,true,true,true,true,false,false,false] rfl rfl Y0 (fun _ _ _ h=>h) (Or.inl ⟨F0,?_⟩) hH ?_ ?_
 rotate_left
 ·rintro w' ⟨s0,s1,s2,s3,s4⟩
  go_simp
  with_reducible rfl
 rotate_left
 ·simp only[Act.put,kss,i64_w,i32_w]
  rfl
 refine one_ (i:=4) (N:=some 10) #[true,true,true,true,true,true,true,true,true,true,true,false,false,false] rfl rfl Y0 X0 (fun Kc hK=>?_)
 refine kgo Tryz.func43 #[.agg #[.int .i64 x0,.slice A1 x1.length c1]] F0 rfl rfl ?_
 refine(bits_u.calls _ x0 _ _ x1 z3 u3 _ (K.C 0 X1) (K.le 0 X1) A10.out).mono ?_
 rintro e W' ⟨v1,rfl,ho,hb⟩
 replace K:=K.addRI 0 0 hb ho (Nat.le_of_ble_eq_true rfl)
 clear hb ho
 refine⟨_,rfl,hK.out _ _ (HS.out _ _ _ _ K) fun hH=>?_⟩
 clear hK Kc
 refine norm_ (a':=?_) ?_ ?_
 rotate_left
 ·show Act.put _ (some 10) _=_
  simp only[Act.put,kss,i64_w,i32_w]
  rfl
 refine one_ (i:=11) (N:=some 17) #[true,true,true,true,true,true,true,true,true,true,true,true,false,false] rfl rfl Y0 X0 (fun Kc hK=>?_)
 refine kgo Tryz.func43 #[.agg #[.int .i64 y0,.slice A2 y1.length c2]] F0 rfl rfl ?_
 refine(bits_u.calls _ y0 _ _ y1 z4 u4 _ (K.C 1 X1) (K.le 1 X1) A11.out).mono ?_
 rintro e W' ⟨v2,rfl,ho,hb⟩
 replace K:=K.addRI 1 1 hb ho (Nat.le_of_ble_eq_true rfl)
 clear hb ho
 refine⟨_,rfl,hK.out _ _ (HS.out _ _ _ _ K) fun hH=>?_⟩
 clear hK Kc
 refine norm_ (a':=?_) ?_ ?_
 rotate_left
 ·show Act.put _ (some 17) _=_
  simp only[Act.put,kss,i64_w,i32_w]
  rfl
 refine one_ (i:=12) (N:=some 18) #[true,true,true,true,true,true,true,true,true,true,true,true,true,false] rfl rfl Y0 X0 (fun Kc hK=>?_)
 obtain⟨P1,d1,q1⟩:=K.slice 2 X1
 subst q1
 obtain⟨P2,d2,q2⟩:=K.slice 3 X1
 subst q2
 refine kgV (t:=6) (cap:=#[]) Tryz.func130 #[.agg #[.bool z3,.slice P1 u3.length d1],.agg #[.bool z4,.slice P2 u4.length d2]] F0 rfl rfl F0 ?_
 refine(bits_ring_2.calls _ z3 _ _ u3 z4 _ _ u4 z5 u5 _ (K.C 2 X1) (K.le 2 X1) (K.C 3 X1) (K.le 3 X1) A12.out).mono ?_
 rintro e W' ⟨v3,rfl,ho,hb⟩
 replace K:=K.addFI 2 (fun _=>False) hb ho
 clear hb ho
 refine⟨_,rfl,hK.out _ _ (HS.out _ _ _ _ K) fun hH=>?_⟩
 clear hK Kc
 refine norm_ (a':=?_) ?_ ?_
 rotate_left
 ·show Act.put _ (some 18) _=_
  simp only[Act.put,kss,i64_w,i32_w]
  rfl
 obtain⟨P3,d3,q3⟩:=K.slice 4 X1
 subst q3
 rw[hBs.out,hVs.out,hOs.out]at K
 simp only[kls,klv]at K
 clear hBs hVs hOs HS hH
 refine kone2 (i:=13) #[true,true,true,true,true,true,true,true,true,true,true,true,true,true] 0 (.bool z5) (.slice P3 u5.length d3) K rfl rfl rfl Y0 X0 F0 ?_ (fun W K=>⟨below_cell K.below hg,below_cell K.below e0,below_cell K.below e1,below_cell K.below e2,below_cell K.below e3⟩) ?_
 ·intro c0 c1_ f0 f1
  first|(go_simp;done)|(go_simp;rfl)
 clear K
 intro W9 K
 simp only[kls,klv]at K
 refine done_ Y0 ?_
 simp only[Option.some.injEq,Prod.mk.injEq]at h
 obtain⟨rfl,rfl⟩:=h
 go_wp2
 refine bodyPost_ret (results_single rfl (.cell g1 43 #[.bool z5,.slice P3 u5.length d3] (0,0) _ rfl (K.u.heap 0 rfl) Tryz.underlying43 rfl Y0 .nil)) rfl ?_
 exact⟨_,rfl,K.u.hand 4 rfl (fun _ h=>h.elim (fun h=>h.elim) id),K.u.below⟩
def bits_numbers1_bits_ring_5.f (k:Nat) (x0:Int) (x1:List Int) (y0:Int) (y1:List Int):Option (Bool×List Int):=(bits_u.f k x0 x1).bind fun b1=>((bits_u.f k y0 y1).bind fun b2=>((bits_ring_5.f k b1.1 b1.2 b2.1 b2.2).bind fun b3=>(some (b3.1,b3.2))))
theorem bits_numbers1_bits_ring_5.calls (k:Nat) (P:Value) (bk o c g:Nat) (x0:Int) (A1:Option Addr) (c1:Nat) (x1:List Int) (y0:Int) (A2:Option Addr) (c2:Nat) (y1:List Int) (r1:Bool) (r2:List Int) (w:World) (hg:w.cell? ⟨g,0,none⟩=some (.func (.func 133) #[] #[])) (e0:w.cell? ⟨bk,o,none⟩=some (.int .i64 x0)) (e1:w.cell? ⟨bk,o+1,none⟩=some (.slice A1 x1.length c1)) (e2:w.cell? ⟨bk,o+2,none⟩=some (.int .i64 y0)) (e3:w.cell? ⟨bk,o+3,none⟩=some (.slice A2 y1.length c2))
  (hrx:Kd.C (Kd.int .u64) w A1 x1.length x1) (hcx:x1.length≤c1) (hry:Kd.C (Kd.int .u64) w A2 y1.length y1) (hcy:y1.length≤c2) (h:bits_numbers1_bits_ring_5.f k x0 x1 y0 y1=some (r1,r2)) :
  Calls Tryz.prog 127 #[P,.slice (some ⟨bk,o,none⟩) 2 c,.pointer (some ⟨g,0,none⟩)] w fun e w'=>∃v1_:Value,e=.returned (.agg #[.bool r1,v1_])∧Kd.V (Kd.int .u64) 48 w' w.heap.size (fun k_=>w.heap.size≤k_) v1_ r2∧Below w.heap.size w w':=by
 have aa:=Tryz.underlying28
 have ab:=Tryz.underlying43
 have hw1:wrap64 (1:Int)=1:=by unfold wrap64;omega
 have K:=Kp.refl w
 replace K:=K.parV (Kd.V_mono (ok':=fun _=>True) (Kd.V_mk (e:=48) (base:=0) hcx (Kd.C_F (Kd.heap_int .u64) hrx)) (fun _ h=>trivial))
 clear hrx hcx
 replace K:=K.parV (Kd.V_mono (ok':=fun _=>True) (Kd.V_mk (e:=48) (base:=0) hcy (Kd.C_F (Kd.heap_int .u64) hry)) (fun _ h=>trivial))
 clear hry hcy
 try simp only[klv]at K
 rw[bits_numbers1_bits_ring_5.f]at h
 go_enter Tryz.func127,Tryz.ntmps127
 go_wp2_with (first|((with_reducible refine gate_dst (N:=5) rfl ?_);refine kbe 5 #[.bool false,.slice none 0 0] 43 ?_;intro g1 hgg W2 hx hb;replace K:=K.u.box hgg hx hb;clear hgg hx hb))
 replace h:=bindA h
 obtain⟨⟨z3,u3⟩,A10,h⟩:=h
 dsimp only at h
 replace h:=bindA h
 obtain⟨⟨z4,u4⟩,A11,h⟩:=h
 dsimp only at h
 replace h:=bindA h
 obtain⟨⟨z5,u5⟩,A12,h⟩:=h
 dsimp only at h
 obtain⟨Bs,Vs,Os,hBs,hVs,hOs,K⟩:=K.abs
 have HS:Aside0 (∀l m o_ W,Kp w (Bs++l) m o_ W→W.cell? ⟨g,0,none⟩=some (.func (.func 133) #[] #[])∧W.cell? ⟨bk,o,none⟩=some (.int .i64 x0)∧W.cell? ⟨bk,o+1,none⟩=some (.slice A1 x1.length c1)∧W.cell? ⟨bk,o+2,none⟩=some (.int .i64 y0)∧W.cell? ⟨bk,o+3,none⟩=some (.slice A2 y1.length c2)):=⟨fun l m o_ W K=>⟨below_cell K.below hg,below_cell K.below e0,below_cell K.below e1,below_cell K.below e2,below_cell K.below e3⟩⟩
 refine kpstart (n:=14) (ds:=[]) (S:=fun W=>W.cell? ⟨g,0,none⟩=some (.func (.func 133) #[] #[])∧W.cell? ⟨bk,o,none⟩=some (.int .i64 x0)∧W.cell? ⟨bk,o+1,none⟩=some (.slice A1 x1.length c1)∧W.cell? ⟨bk,o+2,none⟩=some (.int .i64 y0)∧W.cell? ⟨bk,o+3,none⟩=some (.slice A2 y1.length c2)) #[false,false,false,false,false,false,false,false,false,false,false,false,false,false] Y0 rfl rfl K (HS.out [] _ _) (fun W15 K hH=>?_)
 refine take_ (i:=0) (N:=some 6) (v:=?_) (a':=?_) #[true,false,false,false,false,false,false,false,false,false,false,false,false,false] rfl rfl Y0 (fun _ _ _ h=>h) (Or.inl ⟨F0,?_⟩) hH ?_ ?_
 rotate_left
 ·rintro w' ⟨s0,s1,s2,s3,s4⟩
  go_simp
  with_reducible rfl
 rotate_left
 ·simp only[Act.put,kss,i64_w,i32_w]
  rfl
 refine pure_ (i:=1) (N:=some 7) (v:=?_) (a':=?_) #[true,true,false,false,false,false,false,false,false,false,false,false,false,false] rfl rfl Y0 (fun _ _ _ h=>h) (Or.inl ⟨F0,?_⟩) ?_ ?_
 rotate_left
 ·intro w'
  go_simp
  with_reducible rfl
 rotate_left
 ·simp only[Act.put,kss,i64_w,i32_w]
  rfl
 refine pure_ (i:=2) (N:=some 8) (v:=?_) (a':=?_) #[true,true,true,false,false,false,false,false,false,false,false,false,false,false] rfl rfl Y0 (fun _ _ _ h=>h) (Or.inl ⟨F0,?_⟩) ?_ ?_
 rotate_left
 ·intro w'
  go_simp
  with_reducible rfl
 rotate_left
 ·simp only[Act.put,kss,i64_w,i32_w]
  rfl
 refine take_ (i:=3) (N:=some 9) (v:=?_) (a':=?_) #[true,true,true,true,false,false,false,false,false,false,false,false,false,false] rfl rfl Y0 (fun _ _ _ h=>h) (Or.inl ⟨F0,?_⟩) hH ?_ ?_
 rotate_left
 ·rintro w' ⟨s0,s1,s2,s3,s4⟩
  go_simp
  with_reducible rfl
 rotate_left
 ·simp only[Act.put,kss,i64_w,i32_w]
  rfl
 refine pure_ (i:=5) (N:=some 11) (v:=?_) (a':=?_) #[true,true,true,true,false,true,false,false,false,false,false,false,false,false] rfl rfl Y0 (fun _ _ _ h=>h) (Or.inl ⟨F0,?_⟩) ?_ ?_
 rotate_left
 ·intro w'
  go_simp
  with_reducible rfl
 rotate_left
 ·simp only[Act.put,kss,i64_w,i32_w]
  rfl
 refine pure_ (i:=6) (N:=some 12) (v:=?_) (a':=?_) #[true,true,true,true,false,true,true,false,false,false,false,false,false,false] rfl rfl Y0 (fun _ _ _ h=>h) (Or.inl ⟨F0,?_⟩) ?_ ?_
 rotate_left
 ·intro w'
  go_simp
  with_reducible rfl
 rotate_left
 ·simp only[Act.put,kss,i64_w,i32_w]
  rfl
 refine pure_ (i:=7) (N:=some 13) (v:=?_) (a':=?_) #[true,true,true,true,false,true,true,true,false,false,false,false,false,false] rfl rfl Y0 (fun _ _ _ h=>h) (Or.inl ⟨F0,?_⟩) ?_ ?_
 rotate_left
 ·intro w'
  go_simp
  with_reducible rfl
 rotate_left
 ·simp only[Act.put,kss,i64_w,i32_w]
  rfl
 refine pure_ (i:=8) (N:=some 14) (v:=?_) (a':=?_) #[true,true,true,true,false,true,true,true,true,false,false,false,false,false] rfl rfl Y0 (fun _ _ _ h=>h) (Or.inl ⟨F0,?_⟩) ?_ ?_
 rotate_left
 ·intro w'
  go_simp
  with_reducible rfl
 rotate_left
 ·simp only[Act.put,kss,i64_w,i32_w]
  rfl
 refine pure_ (i:=9) (N:=some 15) (v:=?_) (a':=?_) #[true,true,true,true,false,true,true,true,true,true,false,false,false,false] rfl rfl Y0 (fun _ _ _ h=>h) (Or.inl ⟨F0,?_⟩) ?_ ?_
 rotate_left
 ·intro w'
  go_simp
  with_reducible rfl
 rotate_left
 ·simp only[Act.put,kss,i64_w,i32_w]
  rfl
 refine take_ (i:=10) (N:=some 16) (v:=?_) (a':=?_) #[true,true,true,true,false,true,true,true,true,true,true,false,false,false] rfl rfl Y0 (fun _ _ _ h=>h) (Or.inl ⟨F0,?_⟩) hH ?_ ?_
 rotate_left
 ·rintro w' ⟨s0,s1,s2,s3,s4⟩
  go_simp
  with_reducible rfl
 rotate_left
 ·simp only[Act.put,kss,i64_w,i32_w]
  rfl
 refine one_ (i:=4) (N:=some 10) #[true,true,true,true,true,true,true,true,true,true,true,false,false,false] rfl rfl Y0 X0 (fun Kc hK=>?_)
 refine kgo Tryz.func43 #[.agg #[.int .i64 x0,.slice A1 x1.length c1]] F0 rfl rfl ?_
 refine(bits_u.calls _ x0 _ _ x1 z3 u3 _ (K.C 0 X1) (K.le 0 X1) A10.out).mono ?_
 rintro e W' ⟨v1,rfl,ho,hb⟩
 replace K:=K.addRI 0 0 hb ho (Nat.le_of_ble_eq_true rfl)
 clear hb ho
 refine⟨_,rfl,hK.out _ _ (HS.out _ _ _ _ K) fun hH=>?_⟩
 clear hK Kc
 refine norm_ (a':=?_) ?_ ?_
 rotate_left
 ·show Act.put _ (some 10) _=_
  simp only[Act.put,kss,i64_w,i32_w]
  rfl
 refine one_ (i:=11) (N:=some 17) #[true,true,true,true,true,true,true,true,true,true,true,true,false,false] rfl rfl Y0 X0 (fun Kc hK=>?_)
 refine kgo Tryz.func43 #[.agg #[.int .i64 y0,.slice A2 y1.length c2]] F0 rfl rfl ?_
 refine(bits_u.calls _ y0 _ _ y1 z4 u4 _ (K.C 1 X1) (K.le 1 X1) A11.out).mono ?_
 rintro e W' ⟨v2,rfl,ho,hb⟩
 replace K:=K.addRI 1 1 hb ho (Nat.le_of_ble_eq_true rfl)
 clear hb ho
 refine⟨_,rfl,hK.out _ _ (HS.out _ _ _ _ K) fun hH=>?_⟩
 clear hK Kc
 refine norm_ (a':=?_) ?_ ?_
 rotate_left
 ·show Act.put _ (some 17) _=_
  simp only[Act.put,kss,i64_w,i32_w]
  rfl
 refine one_ (i:=12) (N:=some 18) #[true,true,true,true,true,true,true,true,true,true,true,true,true,false] rfl rfl Y0 X0 (fun Kc hK=>?_)
 obtain⟨P1,d1,q1⟩:=K.slice 2 X1
 subst q1
 obtain⟨P2,d2,q2⟩:=K.slice 3 X1
 subst q2
 refine kgV (t:=6) (cap:=#[]) Tryz.func133 #[.agg #[.bool z3,.slice P1 u3.length d1],.agg #[.bool z4,.slice P2 u4.length d2]] F0 rfl rfl F0 ?_
 refine(bits_ring_5.calls _ z3 _ _ u3 z4 _ _ u4 z5 u5 _ (K.C 2 X1) (K.le 2 X1) (K.C 3 X1) (K.le 3 X1) A12.out).mono ?_
 rintro e W' ⟨v3,rfl,ho,hb⟩
 replace K:=K.addRI 2 2 hb ho (Nat.le_of_ble_eq_true rfl)
 clear hb ho
 refine⟨_,rfl,hK.out _ _ (HS.out _ _ _ _ K) fun hH=>?_⟩
 clear hK Kc
 refine norm_ (a':=?_) ?_ ?_
 rotate_left
 ·show Act.put _ (some 18) _=_
  simp only[Act.put,kss,i64_w,i32_w]
  rfl
 obtain⟨P3,d3,q3⟩:=K.slice 4 X1
 subst q3
 rw[hBs.out,hVs.out,hOs.out]at K
 simp only[kls,klv]at K
 clear hBs hVs hOs HS hH
 refine kone2 (i:=13) #[true,true,true,true,true,true,true,true,true,true,true,true,true,true] 0 (.bool z5) (.slice P3 u5.length d3) K rfl rfl rfl Y0 X0 F0 ?_ (fun W K=>⟨below_cell K.below hg,below_cell K.below e0,below_cell K.below e1,below_cell K.below e2,below_cell K.below e3⟩) ?_
 ·intro c0 c1_ f0 f1
  first|(go_simp;done)|(go_simp;rfl)
 clear K
 intro W9 K
 simp only[kls,klv]at K
 refine done_ Y0 ?_
 simp only[Option.some.injEq,Prod.mk.injEq]at h
 obtain⟨rfl,rfl⟩:=h
 go_wp2
 refine bodyPost_ret (results_single rfl (.cell g1 43 #[.bool z5,.slice P3 u5.length d3] (0,0) _ rfl (K.u.heap 0 rfl) Tryz.underlying43 rfl Y0 .nil)) rfl ?_
 exact⟨_,rfl,K.u.hand 4 rfl (fun _ h=>h.elim (fun h=>h.elim) id),K.u.below⟩
theorem bits_numbers1_bits_ring_2.mono (a b c d:_) (k:Nat):LeO (bits_numbers1_bits_ring_2.f k a b c d) (bits_numbers1_bits_ring_2.f (k+1) a b c d):=by
 unfold bits_numbers1_bits_ring_2.f
 repeat' first
   | (with_reducible exact bits_u.mono _ _ _)
   | (with_reducible exact bits_ring_2.mono _ _ _ _ _)
   | (with_reducible exact LeO.refl _)
   | (with_reducible refine LeO.bind ?_ (fun _=>?_))
theorem bits_numbers1_bits_ring_5.mono (a b c d:_) (k:Nat):LeO (bits_numbers1_bits_ring_5.f k a b c d) (bits_numbers1_bits_ring_5.f (k+1) a b c d):=by
 unfold bits_numbers1_bits_ring_5.f
 repeat' first
   | (with_reducible exact bits_u.mono _ _ _)
   | (with_reducible exact bits_ring_5.mono _ _ _ _ _)
   | (with_reducible exact LeO.refl _)
   | (with_reducible refine LeO.bind ?_ (fun _=>?_))
theorem ring_52 (w:World):Calls Tryz.prog 58 #[.int .i64 52] w fun e w'=>e=.returned (.func (.func 130) #[] #[])∧w'=w:=by
 go_enter Tryz.func58,Tryz.ntmps58
 go_wp2
 go_ret
 exact⟨rfl,rfl⟩
theorem operators_52 (w:World):Calls Tryz.prog 31 #[.int .i64 52] w fun e w'=>∃g2,w.heap.size≤g2∧e=.returned (.tuple #[.agg #[.int .i64 2,.int .i64 0,.nilFunc,.func (.func 127) #[] #[.pointer (some ⟨g2,0,none⟩)]],.bool true])∧w'.heap[g2]? = some (.cells #[.func (.func 130) #[] #[]] 100 (0,0))∧Below w.heap.size w w':=by
 have aa:=Tryz.underlying65
 have K:=Kp.refl w
 go_enter Tryz.func31,Tryz.ntmps31
 go_wp2_with (first
  | ((with_reducible refine gate_dst (N:=2) rfl ?_);refine kbe 2 #[.int .i64 0,.int .i64 0,.nilFunc,.nilFunc] 65 ?_;intro g1 hg W2 hx hb;replace K:=K.u.box hg hx hb;clear hg hx hb)
  | ((with_reducible refine gate_dst (N:=43) rfl ?_);refine kgl (some 43) rfl rfl Tryz.func58 #[.int .i64 52] rfl ?_;refine(ring_52 _).mono ?_;rintro e W3 ⟨rfl,rfl⟩;refine⟨_,rfl,?_⟩)
  | ((with_reducible refine gate_dst (N:=44) rfl ?_);refine kgl (some 44) rfl rfl Tryz.func57 #[.func (.func 130) #[] #[]] rfl ?_;refine(numbers_call 130 _).mono ?_;rintro e W4 ⟨g2,hg,rfl,hx,hb⟩;refine⟨_,rfl,?_⟩;replace K:=K.u.box hg hx hb;have hge:w.heap.size≤g2:=(K.blk _ (List.mem_of_getElem? (i:=1) rfl)).1;clear hg hx hb)
  | ((with_reducible refine gate_store (t:=65) (p:=2) (v:=.tmp 45) rfl ?_);refine kstN 0 0 [.int .i64 2,.int .i64 0,.nilFunc,.func (.func 127) #[] #[.pointer (some ⟨g2,0,none⟩)]] K.u rfl ?qq ?_;(case qq=>intro hc hf;have c0:=hc 0 _ rfl;have f0:=hf 0;have c1:=hc 1 _ rfl;have f1:=hf 1;have c2:=hc 2 _ rfl;have f2:=hf 2;have c3:=hc 3 _ rfl;have f3:=hf 3;clear hc hf;first|(go_simp;done)|(go_simp;rfl));clear K;intro W5 K;simp only[kls,klv,kpl,kss]at K))
 refine bodyPost_ret (results_list (rs:=[.cell 2 65,.tmp 3]) rfl Z1 (.cell g1 65 #[.int .i64 2,.int .i64 0,.nilFunc,.func (.func 127) #[] #[.pointer (some ⟨g2,0,none⟩)]] (0,0) _ rfl (K.u.heap 0 rfl) Tryz.underlying65 rfl Y0 (.tmp .nil))) rfl ?_
 exact⟨g2,hge,rfl,K.u.heap 1 rfl,K.u.below⟩
theorem ring_51 (w:World):Calls Tryz.prog 58 #[.int .i64 51] w fun e w'=>e=.returned (.func (.func 133) #[] #[])∧w'=w:=by
 go_enter Tryz.func58,Tryz.ntmps58
 go_wp2
 go_ret
 exact⟨rfl,rfl⟩
theorem operators_51 (w:World):Calls Tryz.prog 31 #[.int .i64 51] w fun e w'=>∃g2,w.heap.size≤g2∧e=.returned (.tuple #[.agg #[.int .i64 2,.int .i64 0,.func (.func 59) #[] #[],.func (.func 127) #[] #[.pointer (some ⟨g2,0,none⟩)]],.bool true])∧w'.heap[g2]? = some (.cells #[.func (.func 133) #[] #[]] 100 (0,0))∧Below w.heap.size w w':=by
 have aa:=Tryz.underlying65
 have K:=Kp.refl w
 go_enter Tryz.func31,Tryz.ntmps31
 go_wp2_with (first
  | ((with_reducible refine gate_dst (N:=2) rfl ?_);refine kbe 2 #[.int .i64 0,.int .i64 0,.nilFunc,.nilFunc] 65 ?_;intro g1 hg W2 hx hb;replace K:=K.u.box hg hx hb;clear hg hx hb)
  | ((with_reducible refine gate_dst (N:=49) rfl ?_);refine kgl (some 49) rfl rfl Tryz.func58 #[.int .i64 51] rfl ?_;refine(ring_51 _).mono ?_;rintro e W3 ⟨rfl,rfl⟩;refine⟨_,rfl,?_⟩)
  | ((with_reducible refine gate_dst (N:=50) rfl ?_);refine kgl (some 50) rfl rfl Tryz.func57 #[.func (.func 133) #[] #[]] rfl ?_;refine(numbers_call 133 _).mono ?_;rintro e W4 ⟨g2,hg,rfl,hx,hb⟩;refine⟨_,rfl,?_⟩;replace K:=K.u.box hg hx hb;have hge:w.heap.size≤g2:=(K.blk _ (List.mem_of_getElem? (i:=1) rfl)).1;clear hg hx hb)
  | ((with_reducible refine gate_store (t:=65) (p:=2) (v:=.tmp 51) rfl ?_);refine kstN 0 0 [.int .i64 2,.int .i64 0,.func (.func 59) #[] #[],.func (.func 127) #[] #[.pointer (some ⟨g2,0,none⟩)]] K.u rfl ?qq ?_;(case qq=>intro hc hf;have c0:=hc 0 _ rfl;have f0:=hf 0;have c1:=hc 1 _ rfl;have f1:=hf 1;have c2:=hc 2 _ rfl;have f2:=hf 2;have c3:=hc 3 _ rfl;have f3:=hf 3;clear hc hf;first|(go_simp;done)|(go_simp;rfl));clear K;intro W5 K;simp only[kls,klv,kpl,kss]at K))
 refine bodyPost_ret (results_list (rs:=[.cell 2 65,.tmp 3]) rfl Z1 (.cell g1 65 #[.int .i64 2,.int .i64 0,.func (.func 59) #[] #[],.func (.func 127) #[] #[.pointer (some ⟨g2,0,none⟩)]] (0,0) _ rfl (K.u.heap 0 rfl) Tryz.underlying65 rfl Y0 (.tmp .nil))) rfl ?_
 exact⟨g2,hge,rfl,K.u.heap 1 rfl,K.u.below⟩
theorem bits_Apply_52.calls (k:Nat) (A1:Option Addr) (c1:Nat) (l1:List Int) (A2:Option Addr) (c2:Nat) (x y:S28) (r1:Int) (r2:List Int) (r3:Int) (w:World) (hr2:Kd.C k28 w A2 2 [x,y]) (hc2:2≤c2) (h:bits_apply2 k (bits_numbers1_bits_ring_2.f k) id 52 [x,y]=some (r1,r2,r3)) :
  Calls Tryz.prog 11 #[.int .i64 52,.slice A1 l1.length c1,.slice A2 2 c2] w fun e w'=>∃v1_:Value,e=.returned (.tuple #[.agg #[.int .i64 r1,v1_],.int .i64 r3])∧Kd.R (Kd.int .u64) 48 w' w.heap.size (fun _=>True) v1_ r2∧Below w.heap.size w w':=by
 have aa:=Tryz.underlying65
 have ab:=Tryz.underlying28
 obtain⟨bk,o,B1,d1,B2,d2,rfl,hE0,hX,hY⟩:=vec_two hr2
 have HX:=Aside0.mk hX
 have HY:=Aside0.mk hY
 have HE:=Aside0.mk hE0
 clear hX hY hE0
 rw[bits_apply2]at h
 obtain⟨er,hE,h⟩:=Option.bind_eq_some_iff.1 h
 have K:=Kp.refl w
 by_cases ce:er=0
 ·rw[if_pos ce]at h
  subst ce
  split at h
  ·cases h
  rename_i hw
  obtain⟨n,hn,h⟩:=Option.bind_eq_some_iff.1 h
  obtain⟨r,hr,h⟩:=Option.bind_eq_some_iff.1 h
  obtain⟨n1,n2⟩:=n
  obtain⟨q1,q2⟩:=r
  simp only[Option.some.injEq,Prod.mk.injEq]at h
  obtain⟨rfl,rfl,rfl⟩:=h
  have HN:=Aside0.mk hn
  have HR:=Aside0.mk hr
  have HV:=Aside0.mk hE
  have HW:¬(x.f0>(4096:Int)):=hw
  clear hn hr hE hw
  have hnil:=neq_nil
  have hfun:=neq_fun
  have HWb:decide (x.f0>(4096:Int))=false:=decide_eq_false HW
  go_enter Tryz.func11,Tryz.ntmps11
  go_wp2_with (first
  | ((with_reducible refine gate_dst (N:=6) rfl ?_);refine kbe 6 #[.int .i64 0,.slice none 0 0] 28 ?_;intro g1 hg W2 hx hb;replace K:=K.u.box hg hx hb;clear hg hx hb)
  | ((with_reducible refine gate_dst (N:=14) rfl ?_);refine kgl (some 14) rfl rfl Tryz.func31 #[.int .i64 52] rfl ?_;refine(operators_52 _).mono ?_;rintro e W3 ⟨g2,hge,rfl,hx,hb⟩;refine⟨_,rfl,?_⟩;replace K:=addBox K.u hge hx hb;clear hge hx hb)
  | ((with_reducible refine gate_dst (N:=8) rfl ?_);refine kbe 8 #[.int .i64 0,.int .i64 0,.nilFunc,.nilFunc] 65 ?_;intro g8 hg W4 hx hb;replace K:=K.u.box hg hx hb;clear hg hx hb)
  | ((with_reducible refine gate_store (t:=65) (p:=8) (v:=.tmp 15) rfl ?_);refine kstN 2 0 [.int .i64 2,.int .i64 0,.nilFunc,.func (.func 127) #[] #[.pointer (some ⟨g2,0,none⟩)]] K.u rfl ?qq ?_;(case qq=>intro hc hf;have c0:=hc 0 _ rfl;have f0:=hf 0;have c1:=hc 1 _ rfl;have f1:=hf 1;have c2:=hc 2 _ rfl;have f2:=hf 2;have c3:=hc 3 _ rfl;have f3:=hf 3;clear hc hf;first|(go_simp;done)|(go_simp;rfl));clear K;intro W5 K;simp only[kls,klv,kpl,kss]at K;have v80:=K.cell 2 rfl 0 rfl;have v81:=K.cell 2 rfl 1 rfl;have v82:=K.cell 2 rfl 2 rfl;have v83:=K.cell 2 rfl 3 rfl)
  | ((with_reducible refine gate_dst (N:=30) rfl ?_);refine kgl (some 30) rfl rfl Tryz.func32 #[.int .i64 52,.int .i64 0,.slice A1 l1.length c1] rfl ?_;refine(params_0 _ _ _).mono ?_;rintro e W6 ⟨rfl,rfl⟩;refine⟨_,rfl,?_⟩)
  | ((with_reducible refine gate_dst (N:=35) rfl ?_);clear v80 v81 v82 v83;refine kgl (some 35) rfl rfl Tryz.func33 #[.int .i64 52,.slice (some ⟨bk,o,none⟩) 2 c2] rfl ?_;refine(bits_vectors.calls k 52 _ _ [x,y] 0 _ (Kd.C_below hr2 K.u.below) hc2 HV.out).mono ?_;rintro e W7 ⟨rfl,hb⟩;refine⟨_,rfl,?_⟩;replace K:=K.u.up hb;clear hb;have v80:=K.cell 2 rfl 0 rfl;have v81:=K.cell 2 rfl 1 rfl;have v82:=K.cell 2 rfl 2 rfl;have v83:=K.cell 2 rfl 3 rfl;have e0:=below_cell K.below HE.out.1))
  go_region
  replace K:=K.up (below_drew (Below.refl _ _))
  clear v80 v81 v82 v83
  clear e0
  have v83:=K.cell 2 rfl 3 rfl
  go_wp2_with (first
  | (go_at_call 127;clear v83;refine(bits_numbers1_bits_ring_2.calls k _ bk o c2 g2 x.f0 B1 d1 x.f1 y.f0 B2 d2 y.f1 n1 n2 _ (K.cell 1 rfl 0 rfl) (below_cell K.below HE.out.1) (below_cell K.below HE.out.2.1) (below_cell K.below HE.out.2.2.1) (below_cell K.below HE.out.2.2.2) (Kd.C_below HX.out.2 K.below) HX.out.1 (Kd.C_below HY.out.2 K.below) HY.out.1 HN.out).mono ?_;rintro e W9 ⟨v1,rfl,ho,hb⟩;replace K:=K.addF (fun _=>False) hb ho;clear hb ho;obtain⟨P3,d3,q3⟩:=K.slice 0 rfl;subst q3)
  | (go_at_call 34;refine(bits_of.calls k (x.f0) n1 _ _ n2 q1 q2 _ (K.C 0 rfl) (K.le 0 rfl) HR.out).mono ?_;rintro e W10 ⟨v2,rfl,ho,hb⟩;replace K:=K.addRE hb ho;clear hb ho;obtain⟨P4,d4,q4⟩:=K.slice 1 rfl;subst q4)
  | ((with_reducible refine gate_store (t:=28) (p:=6) (v:=.tmp 75) rfl ?_);refine kst2 0 (.int .i64 q1) (.slice P4 q2.length d4) K.u rfl ?qp ?_;(case qp=>intro c0 c1 f0 f1;first|(go_simp;done)|(go_simp;rfl));clear K;intro W11 K;simp only[kls,klv]at K))
  refine bodyPost_ret (results_list (rs:=[.cell 6 28,.tmp 7]) rfl Z1 (.cell g1 28 #[.int .i64 q1,.slice P4 q2.length d4] (0,0) _ rfl (K.u.heap 0 rfl) Tryz.underlying28 rfl Y0 (.tmp .nil))) rfl ?_
  exact⟨_,rfl,K.u.R 0 rfl,K.u.below⟩
 rw[if_neg ce]at h
 simp only[Option.some.injEq,Prod.mk.injEq]at h
 obtain⟨rfl,rfl,rfl⟩:=h
 have ceb:(er != 0)=true:=by simpa using ce
 go_enter Tryz.func11,Tryz.ntmps11
 go_wp2_with (first
 | ((with_reducible refine gate_dst (N:=6) rfl ?_);refine kbe 6 #[.int .i64 0,.slice none 0 0] 28 ?_;intro g1 hg W2 hx hb;replace K:=K.u.box hg hx hb;clear hg hx hb)
 | ((with_reducible refine gate_dst (N:=14) rfl ?_);refine kgl (some 14) rfl rfl Tryz.func31 #[.int .i64 52] rfl ?_;refine(operators_52 _).mono ?_;rintro e W3 ⟨g2,hge,rfl,hx,hb⟩;refine⟨_,rfl,?_⟩;replace K:=addBox K.u hge hx hb;clear hge hx hb)
 | ((with_reducible refine gate_dst (N:=8) rfl ?_);refine kbe 8 #[.int .i64 0,.int .i64 0,.nilFunc,.nilFunc] 65 ?_;intro g8 hg W4 hx hb;replace K:=K.u.box hg hx hb;clear hg hx hb)
 | ((with_reducible refine gate_store (t:=65) (p:=8) (v:=.tmp 15) rfl ?_);refine kstN 2 0 [.int .i64 2,.int .i64 0,.nilFunc,.func (.func 127) #[] #[.pointer (some ⟨g2,0,none⟩)]] K.u rfl ?qq ?_;(case qq=>intro hc hf;have c0:=hc 0 _ rfl;have f0:=hf 0;have c1:=hc 1 _ rfl;have f1:=hf 1;have c2:=hc 2 _ rfl;have f2:=hf 2;have c3:=hc 3 _ rfl;have f3:=hf 3;clear hc hf;first|(go_simp;done)|(go_simp;rfl));clear K;intro W5 K;simp only[kls,klv,kpl,kss]at K;have v80:=K.cell 2 rfl 0 rfl;have v81:=K.cell 2 rfl 1 rfl;have v82:=K.cell 2 rfl 2 rfl;have v83:=K.cell 2 rfl 3 rfl)
 | ((with_reducible refine gate_dst (N:=30) rfl ?_);refine kgl (some 30) rfl rfl Tryz.func32 #[.int .i64 52,.int .i64 0,.slice A1 l1.length c1] rfl ?_;refine(params_0 _ _ _).mono ?_;rintro e W6 ⟨rfl,rfl⟩;refine⟨_,rfl,?_⟩)
 | ((with_reducible refine gate_dst (N:=35) rfl ?_);clear v80 v81 v82 v83;refine kgl (some 35) rfl rfl Tryz.func33 #[.int .i64 52,.slice (some ⟨bk,o,none⟩) 2 c2] rfl ?_;refine(bits_vectors.calls k 52 _ _ [x,y] er _ (Kd.C_below hr2 K.u.below) hc2 hE).mono ?_;rintro e W7 ⟨rfl,hb⟩;refine⟨_,rfl,?_⟩;replace K:=K.u.up hb;clear hb;have v80:=K.cell 2 rfl 0 rfl;have v81:=K.cell 2 rfl 1 rfl;have v82:=K.cell 2 rfl 2 rfl;have v83:=K.cell 2 rfl 3 rfl)
 | ((with_reducible refine gate_store (t:=28) (p:=6) (v:=.tmp 38) rfl ?_);clear v80 v81 v82 v83;refine kst2 0 (.int .i64 0) (.slice none 0 0) K.u rfl ?qp ?_;(case qp=>intro c0 c1 f0 f1;first|(go_simp;done)|(go_simp;rfl));clear K;intro W9 K;simp only[kls,klv]at K))
 refine bodyPost_ret (results_list (rs:=[.cell 6 28,.tmp 7]) rfl Z1 (.cell g1 28 #[.int .i64 0,.slice none 0 0] (0,0) _ rfl (K.u.heap 0 rfl) Tryz.underlying28 rfl Y0 (.tmp .nil))) rfl ?_
 exact⟨_,rfl,Kd.R_nil _ _ _ _ _,K.u.below⟩
theorem bits_Apply_51.calls (k:Nat) (A1:Option Addr) (c1:Nat) (l1:List Int) (A2:Option Addr) (c2:Nat) (x y:S28) (r1:Int) (r2:List Int) (r3:Int) (w:World) (hr2:Kd.C k28 w A2 2 [x,y]) (hc2:2≤c2) (h:bits_apply2 k (bits_numbers1_bits_ring_5.f k) (fun _=>1) 51 [x,y]=some (r1,r2,r3)) :
  Calls Tryz.prog 11 #[.int .i64 51,.slice A1 l1.length c1,.slice A2 2 c2] w fun e w'=>∃v1_:Value,e=.returned (.tuple #[.agg #[.int .i64 r1,v1_],.int .i64 r3])∧Kd.R (Kd.int .u64) 48 w' w.heap.size (fun _=>True) v1_ r2∧Below w.heap.size w w':=by
 have aa:=Tryz.underlying65
 have ab:=Tryz.underlying28
 obtain⟨bk,o,B1,d1,B2,d2,rfl,hE0,hX,hY⟩:=vec_two hr2
 have HX:=Aside0.mk hX
 have HY:=Aside0.mk hY
 have HE:=Aside0.mk hE0
 clear hX hY hE0
 rw[bits_apply2]at h
 obtain⟨er,hE,h⟩:=Option.bind_eq_some_iff.1 h
 have K:=Kp.refl w
 by_cases ce:er=0
 ·rw[if_pos ce]at h
  subst ce
  split at h
  ·cases h
  rename_i hw
  obtain⟨n,hn,h⟩:=Option.bind_eq_some_iff.1 h
  obtain⟨r,hr,h⟩:=Option.bind_eq_some_iff.1 h
  obtain⟨n1,n2⟩:=n
  obtain⟨q1,q2⟩:=r
  simp only[Option.some.injEq,Prod.mk.injEq]at h
  obtain⟨rfl,rfl,rfl⟩:=h
  have HN:=Aside0.mk hn
  have HR:=Aside0.mk hr
  have HV:=Aside0.mk hE
  have HW:¬(1>(4096:Int)):=hw
  clear hn hr hE hw
  have hnil:=neq_nil
  have hfun:=neq_fun
  have HWb:decide (1>(4096:Int))=false:=decide_eq_false HW
  go_enter Tryz.func11,Tryz.ntmps11
  go_wp2_with (first
  | ((with_reducible refine gate_dst (N:=6) rfl ?_);refine kbe 6 #[.int .i64 0,.slice none 0 0] 28 ?_;intro g1 hg W2 hx hb;replace K:=K.u.box hg hx hb;clear hg hx hb)
  | ((with_reducible refine gate_dst (N:=14) rfl ?_);refine kgl (some 14) rfl rfl Tryz.func31 #[.int .i64 51] rfl ?_;refine(operators_51 _).mono ?_;rintro e W3 ⟨g2,hge,rfl,hx,hb⟩;refine⟨_,rfl,?_⟩;replace K:=addBox K.u hge hx hb;clear hge hx hb)
  | ((with_reducible refine gate_dst (N:=8) rfl ?_);refine kbe 8 #[.int .i64 0,.int .i64 0,.nilFunc,.nilFunc] 65 ?_;intro g8 hg W4 hx hb;replace K:=K.u.box hg hx hb;clear hg hx hb)
  | ((with_reducible refine gate_store (t:=65) (p:=8) (v:=.tmp 15) rfl ?_);refine kstN 2 0 [.int .i64 2,.int .i64 0,.func (.func 59) #[] #[],.func (.func 127) #[] #[.pointer (some ⟨g2,0,none⟩)]] K.u rfl ?qq ?_;(case qq=>intro hc hf;have c0:=hc 0 _ rfl;have f0:=hf 0;have c1:=hc 1 _ rfl;have f1:=hf 1;have c2:=hc 2 _ rfl;have f2:=hf 2;have c3:=hc 3 _ rfl;have f3:=hf 3;clear hc hf;first|(go_simp;done)|(go_simp;rfl));clear K;intro W5 K;simp only[kls,klv,kpl,kss]at K;have v80:=K.cell 2 rfl 0 rfl;have v81:=K.cell 2 rfl 1 rfl;have v82:=K.cell 2 rfl 2 rfl;have v83:=K.cell 2 rfl 3 rfl)
  | ((with_reducible refine gate_dst (N:=30) rfl ?_);refine kgl (some 30) rfl rfl Tryz.func32 #[.int .i64 51,.int .i64 0,.slice A1 l1.length c1] rfl ?_;refine(params_0 _ _ _).mono ?_;rintro e W6 ⟨rfl,rfl⟩;refine⟨_,rfl,?_⟩)
  | ((with_reducible refine gate_dst (N:=35) rfl ?_);clear v80 v81 v82 v83;refine kgl (some 35) rfl rfl Tryz.func33 #[.int .i64 51,.slice (some ⟨bk,o,none⟩) 2 c2] rfl ?_;refine(bits_vectors.calls k 51 _ _ [x,y] 0 _ (Kd.C_below hr2 K.u.below) hc2 HV.out).mono ?_;rintro e W7 ⟨rfl,hb⟩;refine⟨_,rfl,?_⟩;replace K:=K.u.up hb;clear hb;have v80:=K.cell 2 rfl 0 rfl;have v81:=K.cell 2 rfl 1 rfl;have v82:=K.cell 2 rfl 2 rfl;have v83:=K.cell 2 rfl 3 rfl;have e0:=below_cell K.below HE.out.1)
  | (go_at_call 59;refine(operators_1 _ _ _).mono ?_;rintro e W8 ⟨rfl,rfl⟩))
  go_region
  replace K:=K.up (below_drew (Below.refl _ _))
  clear v80 v81 v82 v83
  clear e0
  have v83:=K.cell 2 rfl 3 rfl
  go_wp2_with (first
  | (go_at_call 127;clear v83;refine(bits_numbers1_bits_ring_5.calls k _ bk o c2 g2 x.f0 B1 d1 x.f1 y.f0 B2 d2 y.f1 n1 n2 _ (K.cell 1 rfl 0 rfl) (below_cell K.below HE.out.1) (below_cell K.below HE.out.2.1) (below_cell K.below HE.out.2.2.1) (below_cell K.below HE.out.2.2.2) (Kd.C_below HX.out.2 K.below) HX.out.1 (Kd.C_below HY.out.2 K.below) HY.out.1 HN.out).mono ?_;rintro e W9 ⟨v1,rfl,ho,hb⟩;replace K:=K.addF (fun _=>False) hb ho;clear hb ho;obtain⟨P3,d3,q3⟩:=K.slice 0 rfl;subst q3)
  | (go_at_call 34;refine(bits_of.calls k (1) n1 _ _ n2 q1 q2 _ (K.C 0 rfl) (K.le 0 rfl) HR.out).mono ?_;rintro e W10 ⟨v2,rfl,ho,hb⟩;replace K:=K.addRE hb ho;clear hb ho;obtain⟨P4,d4,q4⟩:=K.slice 1 rfl;subst q4)
  | ((with_reducible refine gate_store (t:=28) (p:=6) (v:=.tmp 75) rfl ?_);refine kst2 0 (.int .i64 q1) (.slice P4 q2.length d4) K.u rfl ?qp ?_;(case qp=>intro c0 c1 f0 f1;first|(go_simp;done)|(go_simp;rfl));clear K;intro W11 K;simp only[kls,klv]at K))
  refine bodyPost_ret (results_list (rs:=[.cell 6 28,.tmp 7]) rfl Z1 (.cell g1 28 #[.int .i64 q1,.slice P4 q2.length d4] (0,0) _ rfl (K.u.heap 0 rfl) Tryz.underlying28 rfl Y0 (.tmp .nil))) rfl ?_
  exact⟨_,rfl,K.u.R 0 rfl,K.u.below⟩
 rw[if_neg ce]at h
 simp only[Option.some.injEq,Prod.mk.injEq]at h
 obtain⟨rfl,rfl,rfl⟩:=h
 have ceb:(er != 0)=true:=by simpa using ce
 go_enter Tryz.func11,Tryz.ntmps11
 go_wp2_with (first
 | ((with_reducible refine gate_dst (N:=6) rfl ?_);refine kbe 6 #[.int .i64 0,.slice none 0 0] 28 ?_;intro g1 hg W2 hx hb;replace K:=K.u.box hg hx hb;clear hg hx hb)
 | ((with_reducible refine gate_dst (N:=14) rfl ?_);refine kgl (some 14) rfl rfl Tryz.func31 #[.int .i64 51] rfl ?_;refine(operators_51 _).mono ?_;rintro e W3 ⟨g2,hge,rfl,hx,hb⟩;refine⟨_,rfl,?_⟩;replace K:=addBox K.u hge hx hb;clear hge hx hb)
 | ((with_reducible refine gate_dst (N:=8) rfl ?_);refine kbe 8 #[.int .i64 0,.int .i64 0,.nilFunc,.nilFunc] 65 ?_;intro g8 hg W4 hx hb;replace K:=K.u.box hg hx hb;clear hg hx hb)
 | ((with_reducible refine gate_store (t:=65) (p:=8) (v:=.tmp 15) rfl ?_);refine kstN 2 0 [.int .i64 2,.int .i64 0,.func (.func 59) #[] #[],.func (.func 127) #[] #[.pointer (some ⟨g2,0,none⟩)]] K.u rfl ?qq ?_;(case qq=>intro hc hf;have c0:=hc 0 _ rfl;have f0:=hf 0;have c1:=hc 1 _ rfl;have f1:=hf 1;have c2:=hc 2 _ rfl;have f2:=hf 2;have c3:=hc 3 _ rfl;have f3:=hf 3;clear hc hf;first|(go_simp;done)|(go_simp;rfl));clear K;intro W5 K;simp only[kls,klv,kpl,kss]at K;have v80:=K.cell 2 rfl 0 rfl;have v81:=K.cell 2 rfl 1 rfl;have v82:=K.cell 2 rfl 2 rfl;have v83:=K.cell 2 rfl 3 rfl)
 | ((with_reducible refine gate_dst (N:=30) rfl ?_);refine kgl (some 30) rfl rfl Tryz.func32 #[.int .i64 51,.int .i64 0,.slice A1 l1.length c1] rfl ?_;refine(params_0 _ _ _).mono ?_;rintro e W6 ⟨rfl,rfl⟩;refine⟨_,rfl,?_⟩)
 | ((with_reducible refine gate_dst (N:=35) rfl ?_);clear v80 v81 v82 v83;refine kgl (some 35) rfl rfl Tryz.func33 #[.int .i64 51,.slice (some ⟨bk,o,none⟩) 2 c2] rfl ?_;refine(bits_vectors.calls k 51 _ _ [x,y] er _ (Kd.C_below hr2 K.u.below) hc2 hE).mono ?_;rintro e W7 ⟨rfl,hb⟩;refine⟨_,rfl,?_⟩;replace K:=K.u.up hb;clear hb;have v80:=K.cell 2 rfl 0 rfl;have v81:=K.cell 2 rfl 1 rfl;have v82:=K.cell 2 rfl 2 rfl;have v83:=K.cell 2 rfl 3 rfl)
 | ((with_reducible refine gate_store (t:=28) (p:=6) (v:=.tmp 38) rfl ?_);clear v80 v81 v82 v83;refine kst2 0 (.int .i64 0) (.slice none 0 0) K.u rfl ?qp ?_;(case qp=>intro c0 c1 f0 f1;first|(go_simp;done)|(go_simp;rfl));clear K;intro W9 K;simp only[kls,klv]at K))
 refine bodyPost_ret (results_list (rs:=[.cell 6 28,.tmp 7]) rfl Z1 (.cell g1 28 #[.int .i64 0,.slice none 0 0] (0,0) _ rfl (K.u.heap 0 rfl) Tryz.underlying28 rfl Y0 (.tmp .nil))) rfl ?_
 exact⟨_,rfl,Kd.R_nil _ _ _ _ _,K.u.below⟩
def bits_Apply.f (k:Nat) (a0:Int) (_p:List Int) (l:List S28):Option (Int×List Int×Int):=
 if a0=52 then bits_apply2 k (bits_numbers1_bits_ring_2.f k) id 52 l else if a0=51 then bits_apply2 k (bits_numbers1_bits_ring_5.f k) (fun _=>1) 51 l else none
theorem bits_apply2_mono (k:Nat) (go go':Int→List Int→Int→List Int→Option (Bool×List Int)) (hgo:∀a b c d,LeO (go a b c d) (go' a b c d)) (wd:Int→Int) (a0:Int) (l:List S28):LeO (bits_apply2 k go wd a0 l) (bits_apply2 (k+1) go' wd a0 l):=by
 unfold bits_apply2
 split
 ·repeat' first
   | (with_reducible exact bits_vectors.mono _ _ _)
   | (with_reducible exact hgo _ _ _ _)
   | (with_reducible exact bits_of.mono _ _ _ _)
   | (with_reducible exact LeO.refl _)
   | (with_reducible exact LeO.none _)
   | (with_reducible refine LeO.ite ?_ ?_)
   | (with_reducible refine LeO.bind ?_ (fun _=>?_))
   | exact bits_of.mono _ _ _
 exact LeO.refl _
theorem bits_Apply.mono (a0:Int) (p:List Int) (l:List S28) (k:Nat):LeO (bits_Apply.f k a0 p l) (bits_Apply.f (k+1) a0 p l):=by
 unfold bits_Apply.f
 refine LeO.ite ?_ (LeO.ite ?_ (LeO.refl _))
 ·exact bits_apply2_mono k _ _ (fun a b c d=>bits_numbers1_bits_ring_2.mono a b c d k) _ _ _
 exact bits_apply2_mono k _ _ (fun a b c d=>bits_numbers1_bits_ring_5.mono a b c d k) _ _ _
theorem bits_Apply.calls (k:Nat) (a0:Int) (A1:Option Addr) (c1:Nat) (l1:List Int) (A2:Option Addr) (c2:Nat) (l2:List S28) (r1:Int) (r2:List Int) (r3:Int) (w:World) (hr1:Kd.C (Kd.int .i64) w A1 l1.length l1) (hc1:l1.length≤c1) (hr2:Kd.C k28 w A2 l2.length l2) (hc2:l2.length≤c2) (h:bits_Apply.f k a0 l1 l2=some (r1,r2,r3)) :
  Calls Tryz.prog 11 #[.int .i64 a0,.slice A1 l1.length c1,.slice A2 l2.length c2] w fun e w'=>∃v1_:Value,e=.returned (.tuple #[.agg #[.int .i64 r1,v1_],.int .i64 r3])∧Kd.R (Kd.int .u64) 48 w' w.heap.size (fun _=>True) v1_ r2∧Below w.heap.size w w':=by
 unfold bits_Apply.f at h
 by_cases c:a0=52
 ·rw[if_pos c]at h
  subst c
  match l2,h,hr2,hc2 with
  | [x,y],h,hr2,hc2=>exact bits_Apply_52.calls k A1 c1 l1 A2 c2 x y r1 r2 r3 w hr2 hc2 h
  | [],h,_,_=>cases h
  | [_],h,_,_=>cases h
  | _::_::_::_,h,_,_=>cases h
 rw[if_neg c]at h
 by_cases d:a0=51
 ·rw[if_pos d]at h
  subst d
  match l2,h,hr2,hc2 with
  | [x,y],h,hr2,hc2=>exact bits_Apply_51.calls k A1 c1 l1 A2 c2 x y r1 r2 r3 w hr2 hc2 h
  | [],h,_,_=>cases h
  | [_],h,_,_=>cases h
  | _::_::_::_,h,_,_=>cases h
 rw[if_neg d]at h
 cases h
end Go.Proofs.YtncomlmhagaajaaGreat.PBo
end
