/- Part 2 of what the card rests on. -/
import Derived.Shelf.SlicesQ.IndexFunc
import Derived.Test.YtncomlmhagaajaaGreatCo1
set_option maxHeartbeats 8000000
set_option maxRecDepth 100000
set_option linter.unusedVariables false
set_option linter.unusedSimpArgs false
namespace Go.Proofs.YtncomlmhagaajaaGreat.PBo
open Go.RowKit Go.Proofs.YtncomlmhagaajaaGreatW.PrintWords Go.Proofs.YtncomlmhagaajaaGreatW.PrintLast Go.Proofs.YtncomlmhagaajaaGreatW.PrintMore
open Go.Proofs.YtncomlmhagaajaaGreat.Mine
attribute [local go_sem] max2_int min2_int max_two min_two max_three min_three max_four min_four
def nat_Shl.f (k:Nat) (l0:List Int) (a1:Int):Option (List Int×Int):=if a1<0 then(some (([]:List Int),1)) else((nat_long.f k (([l0]:List (List Int)))).bind fun t699=>(if t699=true then(some (([]:List Int),5)) else((nat_trim.f k l0).bind fun t700=>(if(t700.length:Int)=0 then(some (([]:List Int),0)) else(if a1>262144 then(some (([]:List Int),5)) else(if 0≤(wrap64 (Int.tdiv a1 64)) then(if(wrap64 (Int.tdiv a1 64):Int).toNat≤35184372088832 then((some (List.replicate (wrap64 (Int.tdiv a1 64):Int).toNat 0:List Int)).bind fun y703=>((nat_trim.f k l0).bind fun t706=>((nat_shl.f k t706 (IntKind.u64.wrap (Int.tmod a1 64))).bind fun t709=>(if y703.length+t709.length<17592186044416 then((nat_out.f k (y703++t709)).bind fun bt715=>(some (bt715.1,bt715.2))) else(none))))) else(none)) else(none)))))))
theorem nat_Shl.mono:∀a0 a1 k,LeO (nat_Shl.f k a0 a1) (nat_Shl.f (k+1) a0 a1):=by
 intro a0 a1 k
 unfold nat_Shl.f
 repeat' first
   | (with_reducible exact nat_long.mono _ _)
   | (with_reducible exact nat_out.mono _ _)
   | (with_reducible exact nat_shl.mono _ _ _)
   | (with_reducible exact nat_trim.mono _ _)
   | (with_reducible exact LeO.refl _)
   | (with_reducible exact LeO.none _)
   | (with_reducible refine LeO.ite ?_ ?_)
   | (with_reducible refine LeO.bind ?_ (fun _=>?_))
   | exact nat_long.mono _ _
   | exact nat_out.mono _ _
   | exact nat_shl.mono _ _ _
   | exact nat_trim.mono _ _
   | exact LeO.none _
   | refine LeO.ite ?_ ?_
   | refine LeO.bind ?_ (fun _=>?_)
def nat_Shl.T9:Bool×List (List Nat×List Nat):=(true,[([],[]),([0],[0]),([1,1],[1]),([],[]),([3],[3]),([],[]),([5],[5]),([6],[6]),([4,7,4],[4,7]),([2,8,8],[2,8]),([9,9],[9]),([10],[10]),([10],[10]),([11,10,0,1,2,3,4,5,6,7,8,9,10,11,12],[11]),([12,13,0,1,2,3,4,5,6,7,8,9,10,11,12,13],[12])])
def nat_Shl.B9:List Nat:=[0,1,3,0,8,0,32,96,248,511,1023,2047,2047,8191,16383]
theorem nat_Shl.tab9:rtab .any (opsOf Tryz.f148 9)=nat_Shl.T9:=by kernel_rfl
theorem nat_Shl.bits9:waitsOk nat_Shl.T9.2 nat_Shl.B9=true:=by kernel_rfl
theorem nat_Shl.calls (k:Nat) (P0_:Nat→Prop) (A0:Option Addr) (c0:Nat) (l0:List Int) (a1:Int) (r1:List Int) (r2:Int) (w:World) (hs0:Kd.V (Kd.int .u64) 48 w w.heap.size (fun k_=>P0_ k_) (.slice A0 l0.length c0) l0) (h:nat_Shl.f k l0 a1=some (r1,r2)) :
  Calls Tryz.prog 148 #[.slice A0 l0.length c0,.int .i64 a1] w fun e w'=>∃v0_:Value,e=.returned (.tuple #[v0_,.int .i64 r2])∧Kd.R (Kd.int .u64) 48 w' w.heap.size (fun k_=>(w.heap.size≤k_)) v0_ r1∧Below w.heap.size w w':=by
 have HO0:=Aside0.mk (show Kd.V (Kd.int .u64) 48 w w.heap.size (fun k_=>(P0_ k_∨w.heap.size≤k_)) (.slice A0 l0.length c0) l0 from Kd.V_mono hs0 (fun k_ hk=>.inl hk))
 have HB:=Aside0.mk (Below.refl w.heap.size w)
 have H:(if a1<0 then(some (([]:List Int),1)) else((nat_long.f k (([l0]:List (List Int)))).bind fun ay=>(if ay=true then(some (([]:List Int),5)) else((nat_trim.f k l0).bind fun ag=>(if(ag.length:Int)=0 then(some (([]:List Int),0)) else(if a1>262144 then(some (([]:List Int),5)) else(if 0≤(wrap64 (Int.tdiv a1 64)) then(if(wrap64 (Int.tdiv a1 64):Int).toNat≤35184372088832 then((some (List.replicate (wrap64 (Int.tdiv a1 64):Int).toNat 0:List Int)).bind fun ae=>((nat_trim.f k l0).bind fun af=>((nat_shl.f k af (IntKind.u64.wrap (Int.tmod a1 64))).bind fun aa=>(if ae.length+aa.length<17592186044416 then((nat_out.f k (ae++aa)).bind fun ab=>(some (ab.1,ab.2))) else(none))))) else(none)) else(none))))))))=some (r1,r2):=h
 clear h
 by_cases c3:a1<0
 ·rw[if_pos c3]at H
  have bq:decide (a1<0)=true:=decide_eq_true c3
  clear c3
  simp only[Option.some.injEq,Prod.mk.injEq]at H
  obtain⟨rfl,rfl⟩:=H
  go_enter Tryz.func148,Tryz.ntmps148
  go_wp2
  go_ret2
  exact⟨_,Z1,Z2,khu HB.out⟩
 rw[if_neg c3]at H
 have bq:decide (a1<0)=false:=decide_eq_false c3
 clear c3
 obtain⟨ad,au⟩:∃y_:List (List Int),y_=(([l0]:List (List Int))):=⟨_,rfl⟩
 replace H:((nat_long.f k ad).bind fun ay=>(if ay=true then(some (([]:List Int),5)) else((nat_trim.f k l0).bind fun ag=>(if(ag.length:Int)=0 then(some (([]:List Int),0)) else(if a1>262144 then(some (([]:List Int),5)) else(if 0≤(wrap64 (Int.tdiv a1 64)) then(if(wrap64 (Int.tdiv a1 64):Int).toNat≤35184372088832 then((some (List.replicate (wrap64 (Int.tdiv a1 64):Int).toNat 0:List Int)).bind fun ae=>((nat_trim.f k l0).bind fun af=>((nat_shl.f k af (IntKind.u64.wrap (Int.tmod a1 64))).bind fun aa=>(if ae.length+aa.length<17592186044416 then((nat_out.f k (ae++aa)).bind fun ab=>(some (ab.1,ab.2))) else(none))))) else(none)) else(none)))))))=some (r1,r2):=by first|(rw[au];with_reducible exact H)|(have H2_:=(Option.bind_some _ _).symm.trans H;rw[au];with_reducible exact H2_)|(have H2_:=(Option.bind_some _ _).symm.trans H;with_reducible exact H2_)|with_reducible exact H|(rw[au];exact H)|exact H
 have am:=Aside0.mk au
 clear au
 replace H:=Option.bind_eq_some_iff.mp H
 obtain⟨ay,A40,H⟩:=H
 replace H:(if ay=true then(some (([]:List Int),5)) else((nat_trim.f k l0).bind fun ag=>(if(ag.length:Int)=0 then(some (([]:List Int),0)) else(if a1>262144 then(some (([]:List Int),5)) else(if 0≤(wrap64 (Int.tdiv a1 64)) then(if(wrap64 (Int.tdiv a1 64):Int).toNat≤35184372088832 then((some (List.replicate (wrap64 (Int.tdiv a1 64):Int).toNat 0:List Int)).bind fun ae=>((nat_trim.f k l0).bind fun af=>((nat_shl.f k af (IntKind.u64.wrap (Int.tmod a1 64))).bind fun aa=>(if ae.length+aa.length<17592186044416 then((nat_out.f k (ae++aa)).bind fun ab=>(some (ab.1,ab.2))) else(none))))) else(none)) else(none))))))=some (r1,r2):=H
 have A4:=Aside0.mk A40
 clear A40
 by_cases c5:ay=true
 ·subst c5
  have H1:(some (([]:List Int),5))=some (r1,r2):=by rw[if_pos rfl]at H;exact H
  clear H
  have H:=H1
  clear H1
  simp only[Option.some.injEq,Prod.mk.injEq]at H
  obtain⟨rfl,rfl⟩:=H
  go_enter Tryz.func148,Tryz.ntmps148
  go_wp2_with (first|(refine gd 11 rfl ?_;refine Kd.N_lit (Kd.slice 48 (Kd.int .u64)) _ 26 ?hg (N':=11) ?hd (xs:=([l0]:List (List Int))) (inner:=[.slice A0 l0.length c0]) (ok:=(fun k_=>(P0_ k_∨w.heap.size≤k_))) (okp:=(fun k_=>(P0_ k_∨w.heap.size≤k_))) ?hr ?hp (fun _ hk=>hk) ((show ∀k_,w.heap.size≤k_→(fun k_=>(P0_ k_∨w.heap.size≤k_)) k_ from fun k_ hk=>(.inr (Nat.le_trans (below_size (khu HB.out)) hk))) _ (Nat.le_refl _)) (Below.refl _ _) (Nat.le_refl _) F1 ?_;(case hd=>rfl);(case hg=>rfl);(case hr=>first|(go_simp;done)|(go_simp;rfl));(case hp=>exact(Reps.one (show Kd.FK (Kd.slice 48 (Kd.int .u64)) _ _ l0 [.slice A0 l0.length c0] from(Kd.FK_slice_mk (Kd.V_reads' (Kd.V_mono (ok':=(fun k_=>(P0_ k_∨w.heap.size≤k_))) (HO0.out) (fun k_ hk=>hk))).2.1 (Kd.V_F (Kd.V_mono (ok':=(fun k_=>(P0_ k_∨w.heap.size≤k_))) (HO0.out) (fun k_ hk=>hk))))) (Reps.none _ _)));intro aK w6 ho7 hb hg_ hnew_;clear hg_ hnew_;(first|rw[←am.out]at ho7|(simp only[Int.reduceToNat]at ho7;rw[←am.out]at ho7));replace HO0:=Aside0.mk (Kd.V_elder' (kvu HO0.out) (Kd.N_base ho7) hb);have HO698:=Aside0.mk (Kd.N_lower ho7 (below_size (khu HB.out)));replace HB:=kbs HB hb;clear hb ho7;obtain⟨Ao8,co8,eo8⟩:=Kd.N_slice HO698.out;subst eo8)|((with_reducible refine gate_callee (f:=164) rfl ?_);refine kgl (some 12) rfl rfl Tryz.func164 #[.slice Ao8 ad.length co8] rfl ?_;(with_reducible refine(nat_long.calls k _ _ ad true _ ?side1 ?side2 A4.out).mono ?_);(case side1=>repeat (first|exact(Kd.N_reads' HO698.out).2.2|(with_reducible refine Kd.C_alloc ?_ _)|(with_reducible refine Kd.C_drewN ?_ _)|(with_reducible refine Kd.C_drew ?_)));(case side2=>exact(Kd.N_reads' HO698.out).2.1);rintro e w9 ⟨rfl,hb⟩;refine⟨_,rfl,?_⟩;replace HO0:=kvb HO0 hb;replace HO698:=Aside0.mk (Kd.N_below D0 hb);replace HB:=kbs HB hb;(try clear hb);(try clear hb2);(try clear hk);(try clear hi)))
  go_ret2
  exact⟨_,Z1,Z2,khu HB.out⟩
 replace c5:=Bool.eq_false_iff.mpr c5
 subst c5
 have H1:((nat_trim.f k l0).bind fun ag=>(if(ag.length:Int)=0 then(some (([]:List Int),0)) else(if a1>262144 then(some (([]:List Int),5)) else(if 0≤(wrap64 (Int.tdiv a1 64)) then(if(wrap64 (Int.tdiv a1 64):Int).toNat≤35184372088832 then((some (List.replicate (wrap64 (Int.tdiv a1 64):Int).toNat 0:List Int)).bind fun ae=>((nat_trim.f k l0).bind fun af=>((nat_shl.f k af (IntKind.u64.wrap (Int.tmod a1 64))).bind fun aa=>(if ae.length+aa.length<17592186044416 then((nat_out.f k (ae++aa)).bind fun ab=>(some (ab.1,ab.2))) else(none))))) else(none)) else(none)))))=some (r1,r2):=by rw[if_neg (show ¬(false=true) by decide)]at H;exact H
 clear H
 have H:=H1
 clear H1
 replace H:=Option.bind_eq_some_iff.mp H
 obtain⟨ag,aQ,H⟩:=H
 replace H:(if(ag.length:Int)=0 then(some (([]:List Int),0)) else(if a1>262144 then(some (([]:List Int),5)) else(if 0≤(wrap64 (Int.tdiv a1 64)) then(if(wrap64 (Int.tdiv a1 64):Int).toNat≤35184372088832 then((some (List.replicate (wrap64 (Int.tdiv a1 64):Int).toNat 0:List Int)).bind fun ae=>((nat_trim.f k l0).bind fun af=>((nat_shl.f k af (IntKind.u64.wrap (Int.tmod a1 64))).bind fun aa=>(if ae.length+aa.length<17592186044416 then((nat_out.f k (ae++aa)).bind fun ab=>(some (ab.1,ab.2))) else(none))))) else(none)) else(none))))=some (r1,r2):=H
 have A10:=Aside0.mk aQ
 clear aQ
 by_cases c11:(ag.length:Int)=0
 ·rw[if_pos c11]at H
  have bj:((ag.length:Int)==0)=true:=beq_iff_eq.mpr c11
  have bk:((ag.length:Int) != 0)=false:=bne_eq_false_iff_eq.mpr c11
  clear c11
  simp only[Option.some.injEq,Prod.mk.injEq]at H
  obtain⟨rfl,rfl⟩:=H
  go_enter Tryz.func148,Tryz.ntmps148
  go_wp2_with (first|(refine gd 11 rfl ?_;refine Kd.N_lit (Kd.slice 48 (Kd.int .u64)) _ 26 ?hg (N':=11) ?hd (xs:=([l0]:List (List Int))) (inner:=[.slice A0 l0.length c0]) (ok:=(fun k_=>(P0_ k_∨w.heap.size≤k_))) (okp:=(fun k_=>(P0_ k_∨w.heap.size≤k_))) ?hr ?hp (fun _ hk=>hk) ((show ∀k_,w.heap.size≤k_→(fun k_=>(P0_ k_∨w.heap.size≤k_)) k_ from fun k_ hk=>(.inr (Nat.le_trans (below_size (khu HB.out)) hk))) _ (Nat.le_refl _)) (Below.refl _ _) (Nat.le_refl _) F1 ?_;(case hd=>rfl);(case hg=>rfl);(case hr=>first|(go_simp;done)|(go_simp;rfl));(case hp=>exact(Reps.one (show Kd.FK (Kd.slice 48 (Kd.int .u64)) _ _ l0 [.slice A0 l0.length c0] from(Kd.FK_slice_mk (Kd.V_reads' (Kd.V_mono (ok':=(fun k_=>(P0_ k_∨w.heap.size≤k_))) (HO0.out) (fun k_ hk=>hk))).2.1 (Kd.V_F (Kd.V_mono (ok':=(fun k_=>(P0_ k_∨w.heap.size≤k_))) (HO0.out) (fun k_ hk=>hk))))) (Reps.none _ _)));intro aK w12 az hb hg_ hnew_;clear hg_ hnew_;(first|rw[←am.out]at az|(simp only[Int.reduceToNat]at az;rw[←am.out]at az));replace HO0:=Aside0.mk (Kd.V_elder' (kvu HO0.out) (Kd.N_base az) hb);have HO698:=Aside0.mk (Kd.N_lower az (below_size (khu HB.out)));replace HB:=kbs HB hb;clear hb az;obtain⟨aM,aN,br⟩:=Kd.N_slice HO698.out;subst br)|((with_reducible refine gate_callee (f:=164) rfl ?_);refine kgl (some 12) rfl rfl Tryz.func164 #[.slice aM ad.length aN] rfl ?_;(with_reducible refine(nat_long.calls k _ _ ad false _ ?side1 ?side2 A4.out).mono ?_);(case side1=>repeat (first|exact(Kd.N_reads' HO698.out).2.2|(with_reducible refine Kd.C_alloc ?_ _)|(with_reducible refine Kd.C_drewN ?_ _)|(with_reducible refine Kd.C_drew ?_)));(case side2=>exact(Kd.N_reads' HO698.out).2.1);rintro e w15 ⟨rfl,hb⟩;refine⟨_,rfl,?_⟩;replace HO0:=kvb HO0 hb;replace HO698:=Aside0.mk (Kd.N_below D0 hb);replace HB:=kbs HB hb;(try clear hb);(try clear hb2);(try clear hk);(try clear hi))|((with_reducible refine gate_callee (f:=96) rfl ?_);refine kgl (some 15) rfl rfl Tryz.func96 #[.slice A0 l0.length c0] rfl ?_;(with_reducible refine(nat_trim.calls k (fun k_=>((P0_ k_∨w.heap.size≤k_)∧some k_≠(.slice aM ad.length aN:Value).ownBlock)) _ _ l0 ag _ ?side1 A10.out).mono ?_);(case side1=>exact HO0.out);rintro e w16 ⟨aT,rfl,ho0,hb⟩;refine⟨_,rfl,?_⟩;replace HO0:=kvb HO0 hb;have HO702:=Aside0.mk (Kd.V_lower (Kd.V_mono (ok':=fun k_=>(P0_ k_∨w.heap.size≤k_)∧some k_≠(.slice aM ad.length aN:Value).ownBlock) ho0 (fun k_ hk_=>⟨Or.elim hk_ (fun hs_=>hs_.1) (fun hn_=>(.inr (Nat.le_trans (below_size (khu HB.out)) hn_))),Or.elim hk_ (fun hs_=>hs_.2) (fun hn_=>(Kd.fresh' (Kd.N_lt D0) k_ hn_))⟩)) (below_size (khu HB.out)));replace HO698:=Aside0.mk (Kd.N_below D0 hb);replace HB:=kbs HB hb;(try clear hb);(try clear hb2);(try clear hk);(try clear hi);(try clear ho0);obtain⟨bG,bH,bu⟩:=Kd.V_slice HO702.out;subst bu))
  go_ret2
  exact⟨_,Z1,Z2,khu HB.out⟩
 rw[if_neg c11]at H
 have bj:((ag.length:Int)==0)=false:=beq_eq_false_iff_ne.mpr c11
 have bk:((ag.length:Int) != 0)=true:=bne_iff_ne.mpr c11
 have bB:¬(ag=[]):=fun h_=>c11 (by rw[h_];rfl)
 by_cases c18:a1>262144
 ·rw[if_pos c18]at H
  have bl:decide (262144<a1)=true:=decide_eq_true c18
  clear c18
  simp only[Option.some.injEq,Prod.mk.injEq]at H
  obtain⟨rfl,rfl⟩:=H
  go_enter Tryz.func148,Tryz.ntmps148
  go_wp2_with (first|(refine gd 11 rfl ?_;refine Kd.N_lit (Kd.slice 48 (Kd.int .u64)) _ 26 ?hg (N':=11) ?hd (xs:=([l0]:List (List Int))) (inner:=[.slice A0 l0.length c0]) (ok:=(fun k_=>(P0_ k_∨w.heap.size≤k_))) (okp:=(fun k_=>(P0_ k_∨w.heap.size≤k_))) ?hr ?hp (fun _ hk=>hk) ((show ∀k_,w.heap.size≤k_→(fun k_=>(P0_ k_∨w.heap.size≤k_)) k_ from fun k_ hk=>(.inr (Nat.le_trans (below_size (khu HB.out)) hk))) _ (Nat.le_refl _)) (Below.refl _ _) (Nat.le_refl _) F1 ?_;(case hd=>rfl);(case hg=>rfl);(case hr=>first|(go_simp;done)|(go_simp;rfl));(case hp=>exact(Reps.one (show Kd.FK (Kd.slice 48 (Kd.int .u64)) _ _ l0 [.slice A0 l0.length c0] from(Kd.FK_slice_mk (Kd.V_reads' (Kd.V_mono (ok':=(fun k_=>(P0_ k_∨w.heap.size≤k_))) (HO0.out) (fun k_ hk=>hk))).2.1 (Kd.V_F (Kd.V_mono (ok':=(fun k_=>(P0_ k_∨w.heap.size≤k_))) (HO0.out) (fun k_ hk=>hk))))) (Reps.none _ _)));intro aK w19 aA hb hg_ hnew_;clear hg_ hnew_;(first|rw[←am.out]at aA|(simp only[Int.reduceToNat]at aA;rw[←am.out]at aA));replace HO0:=Aside0.mk (Kd.V_elder' (kvu HO0.out) (Kd.N_base aA) hb);have HO698:=Aside0.mk (Kd.N_lower aA (below_size (khu HB.out)));replace HB:=kbs HB hb;clear hb aA;obtain⟨Ao21,co21,bv⟩:=Kd.N_slice HO698.out;subst bv)|((with_reducible refine gate_callee (f:=164) rfl ?_);refine kgl (some 12) rfl rfl Tryz.func164 #[.slice Ao21 ad.length co21] rfl ?_;(with_reducible refine(nat_long.calls k _ _ ad false _ ?side1 ?side2 A4.out).mono ?_);(case side1=>repeat (first|exact(Kd.N_reads' HO698.out).2.2|(with_reducible refine Kd.C_alloc ?_ _)|(with_reducible refine Kd.C_drewN ?_ _)|(with_reducible refine Kd.C_drew ?_)));(case side2=>exact(Kd.N_reads' HO698.out).2.1);rintro e w22 ⟨rfl,hb⟩;refine⟨_,rfl,?_⟩;replace HO0:=kvb HO0 hb;replace HO698:=Aside0.mk (Kd.N_below D0 hb);replace HB:=kbs HB hb;(try clear hb);(try clear hb2);(try clear hk);(try clear hi))|((with_reducible refine gate_callee (f:=96) rfl ?_);refine kgl (some 15) rfl rfl Tryz.func96 #[.slice A0 l0.length c0] rfl ?_;(with_reducible refine(nat_trim.calls k (fun k_=>((P0_ k_∨w.heap.size≤k_)∧some k_≠(.slice Ao21 ad.length co21:Value).ownBlock)) _ _ l0 ag _ ?side1 A10.out).mono ?_);(case side1=>exact HO0.out);rintro e w23 ⟨aT,rfl,ho0,hb⟩;refine⟨_,rfl,?_⟩;replace HO0:=kvb HO0 hb;have HO702:=Aside0.mk (Kd.V_lower (Kd.V_mono (ok':=fun k_=>(P0_ k_∨w.heap.size≤k_)∧some k_≠(.slice Ao21 ad.length co21:Value).ownBlock) ho0 (fun k_ hk_=>⟨Or.elim hk_ (fun hs_=>hs_.1) (fun hn_=>(.inr (Nat.le_trans (below_size (khu HB.out)) hn_))),Or.elim hk_ (fun hs_=>hs_.2) (fun hn_=>(Kd.fresh' (Kd.N_lt D0) k_ hn_))⟩)) (below_size (khu HB.out)));replace HO698:=Aside0.mk (Kd.N_below D0 hb);replace HB:=kbs HB hb;(try clear hb);(try clear hb2);(try clear hk);(try clear hi);(try clear ho0);obtain⟨bI,bJ,bw⟩:=Kd.V_slice HO702.out;subst bw))
  go_ret2
  exact⟨_,Z1,Z2,khu HB.out⟩
 rw[if_neg c18]at H
 have bl:decide (262144<a1)=false:=decide_eq_false c18
 clear c18
 obtain⟨aj,aq⟩:∃j_:Int,(wrap64 (Int.tdiv a1 64))=j_:=⟨_,rfl⟩
 replace H:(if 0≤(aj) then(if(aj:Int).toNat≤35184372088832 then((some (List.replicate (aj:Int).toNat 0:List Int)).bind fun ae=>((nat_trim.f k l0).bind fun af=>((nat_shl.f k af (IntKind.u64.wrap (Int.tmod a1 64))).bind fun aa=>(if ae.length+aa.length<17592186044416 then((nat_out.f k (ae++aa)).bind fun ab=>(some (ab.1,ab.2))) else(none))))) else(none)) else(none))=some (r1,r2):=by first|(rw[aq]at H;exact H)|(simp only[aq]at H ⊢;exact H)
 (try rw[aq]at A4)
 (try rw[aq]at A10)
 have bA:(IntKind.i64.wrap (Int.tdiv a1 64))=aj:=(i64_w _).trans aq
 by_cases c26:0≤(aj)
 ·rw [if_pos c26]at H
  have bC:=eq_true c26
  have bD:decide (0≤(aj))=true:=decide_eq_true c26
  clear c26
  by_cases c27:(aj:Int).toNat≤35184372088832
  ·rw [if_pos c27]at H
   have bE:=eq_true c27
   have bF:decide ((aj:Int).toNat≤35184372088832)=true:=decide_eq_true c27
   clear c27
   obtain⟨ae,av⟩:∃y_:List Int,y_=(List.replicate (aj:Int).toNat 0):=⟨_,rfl⟩
   replace H:((nat_trim.f k l0).bind fun af=>((nat_shl.f k af (IntKind.u64.wrap (Int.tmod a1 64))).bind fun aa=>(if ae.length+aa.length<17592186044416 then((nat_out.f k (ae++aa)).bind fun ab=>(some (ab.1,ab.2))) else(none))))=some (r1,r2):=by first|(rw[av];with_reducible exact H)|(have H2_:=(Option.bind_some _ _).symm.trans H;rw[av];with_reducible exact H2_)|(have H2_:=(Option.bind_some _ _).symm.trans H;with_reducible exact H2_)|with_reducible exact H|(rw[av];exact H)|exact H
   have ar:=Aside0.mk av
   clear av
   replace H:=Option.bind_eq_some_iff.mp H
   obtain⟨af,aU,H⟩:=H
   replace H:((nat_shl.f k af (IntKind.u64.wrap (Int.tmod a1 64))).bind fun aa=>(if ae.length+aa.length<17592186044416 then((nat_out.f k (ae++aa)).bind fun ab=>(some (ab.1,ab.2))) else(none)))=some (r1,r2):=H
   have A28:=Aside0.mk aU
   clear aU
   replace H:=Option.bind_eq_some_iff.mp H
   obtain⟨aa,aV,H⟩:=H
   replace H:(if ae.length+aa.length<17592186044416 then((nat_out.f k (ae++aa)).bind fun ab=>(some (ab.1,ab.2))) else(none))=some (r1,r2):=H
   have A29:=Aside0.mk aV
   clear aV
   by_cases c30:ae.length+aa.length<17592186044416
   ·rw [if_pos c30]at H
    have bn:=Aside0.mk c30
    clear c30
    obtain⟨aJ,aw⟩:∃y_:List Int,y_=(ae++aa):=⟨_,rfl⟩
    replace H:((nat_out.f k aJ).bind fun ab=>(some (ab.1,ab.2)))=some (r1,r2):=by first|(rw[aw];with_reducible exact H)|(have H2_:=(Option.bind_some _ _).symm.trans H;rw[aw];with_reducible exact H2_)|(have H2_:=(Option.bind_some _ _).symm.trans H;with_reducible exact H2_)|with_reducible exact H|(rw[aw];exact H)|exact H
    have bo:=Aside0.mk aw
    clear aw
    replace H:=Option.bind_eq_some_iff.mp H
    obtain⟨⟨aW,aX⟩,aY,H⟩:=H
    replace H:(some (aW,aX))=some (r1,r2):=H
    have A31:=Aside0.mk aY
    clear aY
    simp only[Option.some.injEq,Prod.mk.injEq]at H
    obtain⟨rfl,rfl⟩:=H
    go_enter Tryz.func148,Tryz.ntmps148
    try go_wp2_with (first|(refine gd 11 rfl ?_;refine Kd.N_lit (Kd.slice 48 (Kd.int .u64)) _ 26 ?hg (N':=11) ?hd (xs:=([l0]:List (List Int))) (inner:=[.slice A0 l0.length c0]) (ok:=(fun k_=>(P0_ k_∨w.heap.size≤k_))) (okp:=(fun k_=>(P0_ k_∨w.heap.size≤k_))) ?hr ?hp (fun _ hk=>hk) ((show ∀k_,w.heap.size≤k_→(fun k_=>(P0_ k_∨w.heap.size≤k_)) k_ from fun k_ hk=>(.inr (Nat.le_trans (below_size (khu HB.out)) hk))) _ (Nat.le_refl _)) (Below.refl _ _) (Nat.le_refl _) F1 ?_;(case hd=>rfl);(case hg=>rfl);(case hr=>first|(go_simp;done)|(go_simp;rfl));(case hp=>exact(Reps.one (show Kd.FK (Kd.slice 48 (Kd.int .u64)) _ _ l0 [.slice A0 l0.length c0] from(Kd.FK_slice_mk (Kd.V_reads' (Kd.V_mono (ok':=(fun k_=>(P0_ k_∨w.heap.size≤k_))) (HO0.out) (fun k_ hk=>hk))).2.1 (Kd.V_F (Kd.V_mono (ok':=(fun k_=>(P0_ k_∨w.heap.size≤k_))) (HO0.out) (fun k_ hk=>hk))))) (Reps.none _ _)));intro aK w32 aC hb hg_ hnew_;clear hg_ hnew_;(first|rw[←am.out]at aC|(simp only[Int.reduceToNat]at aC;rw[←am.out]at aC));replace HO0:=Aside0.mk (Kd.V_elder' (kvu HO0.out) (Kd.N_base aC) hb);have HO698:=Aside0.mk (Kd.N_lower aC (below_size (khu HB.out)));replace HB:=kbs HB hb;clear hb aC;obtain⟨ah,ai,bx⟩:=Kd.N_slice HO698.out;subst bx)|((with_reducible refine gate_callee (f:=164) rfl ?_);refine kgl (some 12) rfl rfl Tryz.func164 #[.slice ah ad.length ai] rfl ?_;(with_reducible refine(nat_long.calls k _ _ ad false _ ?side1 ?side2 A4.out).mono ?_);(case side1=>repeat (first|exact(Kd.N_reads' HO698.out).2.2|(with_reducible refine Kd.C_alloc ?_ _)|(with_reducible refine Kd.C_drewN ?_ _)|(with_reducible refine Kd.C_drew ?_)));(case side2=>exact(Kd.N_reads' HO698.out).2.1);rintro e w35 ⟨rfl,hb⟩;refine⟨_,rfl,?_⟩;replace HO0:=kvb HO0 hb;replace HO698:=Aside0.mk (Kd.N_below D0 hb);replace HB:=kbs HB hb;(try clear hb);(try clear hb2);(try clear hk);(try clear hi))|((with_reducible refine gate_callee (f:=96) rfl ?_);refine kgl (some 15) rfl rfl Tryz.func96 #[.slice A0 l0.length c0] rfl ?_;(with_reducible refine(nat_trim.calls k (fun k_=>((P0_ k_∨w.heap.size≤k_)∧some k_≠(.slice ah ad.length ai:Value).ownBlock)) _ _ l0 ag _ ?side1 A10.out).mono ?_);(case side1=>exact HO0.out);rintro e w36 ⟨aT,rfl,ho0,hb⟩;refine⟨_,rfl,?_⟩;replace HO0:=kvb HO0 hb;have HO702:=Aside0.mk (Kd.V_lower (Kd.V_mono (ok':=fun k_=>(P0_ k_∨w.heap.size≤k_)∧some k_≠(.slice ah ad.length ai:Value).ownBlock) ho0 (fun k_ hk_=>⟨Or.elim hk_ (fun hs_=>hs_.1) (fun hn_=>(.inr (Nat.le_trans (below_size (khu HB.out)) hn_))),Or.elim hk_ (fun hs_=>hs_.2) (fun hn_=>(Kd.fresh' (Kd.N_lt D0) k_ hn_))⟩)) (below_size (khu HB.out)));replace HO698:=Aside0.mk (Kd.N_below D0 hb);replace HB:=kbs HB hb;(try clear hb);(try clear hb2);(try clear hk);(try clear hi);(try clear ho0);obtain⟨aZ,bb,bz⟩:=Kd.V_slice HO702.out;subst bz))
    replace HO0:=Aside0.mk (Kd.V_drew HO0.out);replace HO698:=Aside0.mk (Kd.N_drew HO698.out);replace HO702:=Aside0.mk (Kd.V_drew HO702.out);replace HB:=Aside0.mk (below_drew1 HB.out)
    refine start_ (n:=15) (S:=fun w'=>True) (ds:=[]) (bm_ 15 0) Z0 rfl rfl trivial (fun hHeld=>?_);refine with_tabW nat_Shl.tab9 nat_Shl.bits9 (fun HT_ HW_=>?_)
    generalize w36.drew=w38 at HO0 HO698 HO702 HB hHeld ⊢
    refine pu_ 0 21 ?_ (bm_ 15 1) rfl rfl (any_of HT_.out Z0) (fun _ _ _ h=>h) B0 ?_ ?_ ?_ ?_
    rotate_left
    ·intro w'
     go_simp
     with_reducible rfl
    rotate_left
    ·simp only[Act.put,kss,i64_w,i32_w]
     rfl
    refine pu_ 1 22 ?_ (bm_ 15 3) rfl rfl (any_of HT_.out Z0) (fun _ _ _ h=>h) B0 ?_ ?_ ?_ ?_
    rotate_left
    ·intro w'
     go_simp
     with_reducible rfl
    rotate_left
    ·simp only[Act.put,kss,i64_w,i32_w]
     rfl
    refine pu_ 3 24 ?_ (bm_ 15 11) rfl rfl (any_of HT_.out Z0) (fun _ _ _ h=>h) B0 ?_ ?_ ?_ ?_
    rotate_left
    ·intro w'
     go_simp
     with_reducible rfl
    rotate_left
    ·simp only[Act.put,kss,i64_w,i32_w]
     rfl
    refine pu_ 5 26 ?_ (bm_ 15 43) rfl rfl (any_of HT_.out Z0) (fun _ _ _ h=>h) B0 ?_ ?_ ?_ ?_
    rotate_left
    ·intro w'
     go_simp
     with_reducible rfl
    rotate_left
    ·simp only[Act.put,kss,i64_w,i32_w]
     rfl
    refine pu_ 6 27 ?_ (bm_ 15 107) rfl rfl (any_of HT_.out Z0) (fun _ _ _ h=>h) B0 ?_ ?_ ?_ ?_
    rotate_left
    ·intro w'
     go_simp
     with_reducible rfl
    rotate_left
    ·simp only[Act.put,kss,i64_w,i32_w]
     rfl
    refine pu_ 7 28 ?_ (bm_ 15 235) rfl rfl (any_of HT_.out Z0) (fun _ _ _ h=>h) B0 ?_ ?_ ?_ ?_
    rotate_left
    ·intro w'
     go_simp
     with_reducible rfl
    rotate_left
    ·simp only[Act.put,kss,i64_w,i32_w]
     rfl
    refine join_ (σ:=Value×Value×Value) 6 (bm_ 15 511) (fun s_=>[(23,s_.1),(25,s_.2.1),(29,s_.2.2)]) (fun s_ w'=>(Kd.V (Kd.int .u64) 48 w' w.heap.size (fun k_=>(P0_ k_∨w.heap.size≤k_)∧some k_≠(.slice ah ad.length ai:Value).ownBlock∧some k_≠(s_.1:Value).ownBlock∧some k_≠(s_.2.2:Value).ownBlock) (.slice A0 l0.length c0) l0)∧(Kd.N (Kd.slice 48 (Kd.int .u64)) 26 w' w.heap.size (fun k_=>(P0_ k_∨w.heap.size≤k_)∧some k_≠(s_.1:Value).ownBlock∧some k_≠(s_.2.2:Value).ownBlock) (.slice ah ad.length ai) ad)∧(Kd.V (Kd.int .u64) 48 w' w.heap.size (fun k_=>(P0_ k_∨w.heap.size≤k_)∧some k_≠(.slice ah ad.length ai:Value).ownBlock∧some k_≠(s_.1:Value).ownBlock∧some k_≠(s_.2.2:Value).ownBlock) (.slice aZ ag.length bb) ag)∧(Kd.R (Kd.int .u64) 48 w' w.heap.size (fun k_=>(w.heap.size≤k_)∧some k_≠(s_.2.2:Value).ownBlock) s_.1 ae)∧(Kd.V (Kd.int .u64) 48 w' w.heap.size (fun k_=>(P0_ k_∨w.heap.size≤k_)∧some k_≠(.slice ah ad.length ai:Value).ownBlock∧some k_≠(s_.1:Value).ownBlock∧some k_≠(s_.2.2:Value).ownBlock) s_.2.1 af)∧(Kd.R (Kd.int .u64) 48 w' w.heap.size (fun k_=>(w.heap.size≤k_)∧some k_≠(s_.1:Value).ownBlock) s_.2.2 aa)∧(Below w.heap.size w w')) ?_ ?_
    rotate_left
    ·intro hCont
     refine two_ (i:=2) (j:=4) (Ni:=some 23) (Nj:=some 25) (bm_ 15 239) (bm_ 15 251) rfl rfl rfl rfl (two_of HT_.out Z0) X0 X0 (fun K hK=>?_) (fun K hK=>?_)
     ·skip
      refine Kd.R_make_step (Kd.int .u64) _ 48 B0 (N:=23) rfl 26 _ _ rfl aj rfl rfl Tryz.underlying26 (.int .u64 0) 8 info48 rfl X0 Y0 0 (ok:=fun _=>True) (okp:=fun _=>True) rfl (fun _ hk=>hk) trivial (of_decide_eq_true ‹_›) (Nat.le_trans (Nat.mul_le_mul_right _ (of_decide_eq_true ‹_›:aj.toNat≤35184372088832)) Y0) (Below.refl _ _) (Nat.le_refl _) ?_
      intro ak w39 ap hb hg_ hnew_
      clear hg_ hnew_
      (first|rw[←ar.out]at ap|(simp only[Int.reduceToNat]at ap;rw[←ar.out]at ap))
      replace HO0:=Aside0.mk (Kd.V_elder' (kvu HO0.out) (Kd.R_base ap) hb);replace HO698:=Aside0.mk (Kd.N_elder' D0 (Kd.R_base ap) hb);replace HO702:=Aside0.mk (Kd.V_elder' (kvu HO702.out) (Kd.R_base ap) hb);have HO705:=Aside0.mk (Kd.R_lower (Kd.R_newM (M:=fun k_=>(w.heap.size≤k_)) ap (below_size (khu HB.out)) (fun k_ h_=>h_)) (below_size (khu HB.out)));replace HB:=kbs HB hb
      clear hb ap
      refine hK.out _ _ trivial (fun hHeld=>?_)
      clear hK K
      refine norm_ (a':=?_) ?_ ?_
      rotate_left
      ·show Act.put _ (some 23) _=_
       simp only[Act.put,kss,i64_w,i32_w]
       rfl
      refine one_ (i:=4) (N:=some 25) (bm_ 15 255) rfl rfl (one_of HT_.out Z0) X0 (fun K hK=>?_)
      refine kgo Tryz.func96 #[.slice A0 l0.length c0] B0 rfl rfl ?_
      with_reducible refine(nat_trim.calls k (fun k_=>(((P0_ k_∨w.heap.size≤k_)∧some k_≠(.slice ah ad.length ai:Value).ownBlock)∧some k_≠(ak:Value).ownBlock)) _ _ l0 af _ ?side1 A28.out).mono ?_
      (case side1=>exact HO0.out)
      rintro e w41 ⟨aP,rfl,ho0,hb⟩
      refine⟨_,rfl,?_⟩
      replace HO0:=kvb HO0 hb;replace HO702:=kvb HO702 hb;have ac:=Aside0.mk (Kd.V_lower (Kd.V_mono (ok':=fun k_=>(P0_ k_∨w.heap.size≤k_)∧some k_≠(.slice ah ad.length ai:Value).ownBlock∧some k_≠(ak:Value).ownBlock) ho0 (fun k_ hk_=>⟨Or.elim hk_ (fun hs_=>hs_.1.1) (fun hn_=>(.inr (Nat.le_trans (below_size (khu HB.out)) hn_))),Or.elim hk_ (fun hs_=>hs_.1.2) (fun hn_=>(Kd.fresh' (Kd.N_lt D0) k_ hn_)),Or.elim hk_ (fun hs_=>hs_.2) (fun hn_=>(Kd.fresh' (Kd.R_lt (kru HO705.out)) k_ hn_))⟩)) (below_size (khu HB.out)));replace HO698:=Aside0.mk (Kd.N_below D0 hb);replace HO705:=krb HO705 hb;replace HB:=kbs HB hb
      (try clear hb);(try clear hb2);(try clear hk);(try clear hi);(try clear ho0)
      obtain⟨aD,aE,aG⟩:=Kd.V_slice ac.out
      (first|subst aG|(injection aG with f1_ f2_ f3_;have f4_:=f1_.symm;have f5_:=f3_.symm;clear f1_ f2_ f3_;subst f4_;subst f5_))
      refine hK.out _ _ trivial (fun hHeld=>?_)
      clear hK K
      refine norm_ (a':=?_) ?_ ?_
      rotate_left
      ·show Act.put _ (some 25) _=_
       simp only[Act.put,kss,i64_w,i32_w]
       rfl
      refine one_ (i:=8) (N:=some 29) (bm_ 15 511) rfl rfl (one_of HT_.out Z0) X0 (fun K hK=>?_)
      refine kgo Tryz.func166 #[.slice aD af.length aE,.int .u64 (IntKind.u64.wrap (Int.tmod a1 64))] B0 rfl rfl ?_
      with_reducible refine(nat_shl.calls k _ _ af (IntKind.u64.wrap (Int.tmod a1 64)) aa _ ?side1 ?side2 A29.out).mono ?_
      (case side1=>repeat (first|exact(Kd.V_reads' ac.out).2.2|(with_reducible refine Kd.C_alloc ?_ _)|(with_reducible refine Kd.C_drewN ?_ _)|(with_reducible refine Kd.C_drew ?_)))
      (case side2=>exact(Kd.V_reads' ac.out).2.1)
      rintro e w43 ⟨al,rfl,ho0,hb⟩
      refine⟨_,rfl,?_⟩
      replace HO0:=Aside0.mk (Kd.V_elder' (kvu HO0.out) (Kd.R_base ho0) hb);replace HO698:=Aside0.mk (Kd.N_elder' D0 (Kd.R_base ho0) hb);replace HO702:=Aside0.mk (Kd.V_elder' (kvu HO702.out) (Kd.R_base ho0) hb);replace ac:=Aside0.mk (Kd.V_elder' (kvu ac.out) (Kd.R_base ho0) hb);have HO711:=Aside0.mk (Kd.R_lower (Kd.R_new' (Kd.R_newM (M:=fun k_=>(w.heap.size≤k_)) ho0 (below_size (khu HB.out)) (fun k_ h_=>h_)) (Kd.R_lt (kru HO705.out))) (below_size (khu HB.out)));replace HO705:=Aside0.mk (Kd.R_elder' (kru HO705.out) (Kd.R_base ho0) hb);replace HB:=kbs HB hb
      (try clear hb);(try clear hb2);(try clear hk);(try clear hi);(try clear ho0)
      refine hK.out _ _ trivial (fun hHeld=>?_)
      clear hK K
      refine norm_ (a':=?_) ?_ ?_
      rotate_left
      ·show Act.put _ (some 29) _=_
       simp only[Act.put,kss,i64_w,i32_w]
       rfl
      exact norm_ X4 (hCont (ak,.slice aD af.length aE,al) _ ⟨F4,U5,U4,Z4,(by(with_reducible repeat (first|apply Kd.V_alloc|apply Kd.V_drewN|apply Kd.V_drew));exact Kd.V_mono ac.out (fun _ hk=>⟨hk.1.1,⟨hk.1.2.1,⟨hk.1.2.2,hk.2⟩⟩⟩)),D3,(khu HB.out)⟩)
     skip
     refine kgo Tryz.func96 #[.slice A0 l0.length c0] B0 rfl rfl ?_
     with_reducible refine(nat_trim.calls k (fun k_=>((P0_ k_∨w.heap.size≤k_)∧some k_≠(.slice ah ad.length ai:Value).ownBlock)) _ _ l0 af _ ?side1 A28.out).mono ?_
     (case side1=>exact HO0.out)
     rintro e w39 ⟨aP,rfl,ho0,hb⟩
     refine⟨_,rfl,?_⟩
     replace HO0:=kvb HO0 hb;replace HO702:=kvb HO702 hb;have ac:=Aside0.mk (Kd.V_lower (Kd.V_mono (ok':=fun k_=>(P0_ k_∨w.heap.size≤k_)∧some k_≠(.slice ah ad.length ai:Value).ownBlock) ho0 (fun k_ hk_=>⟨Or.elim hk_ (fun hs_=>hs_.1) (fun hn_=>(.inr (Nat.le_trans (below_size (khu HB.out)) hn_))),Or.elim hk_ (fun hs_=>hs_.2) (fun hn_=>(Kd.fresh' (Kd.N_lt D0) k_ hn_))⟩)) (below_size (khu HB.out)));replace HO698:=Aside0.mk (Kd.N_below D0 hb);replace HB:=kbs HB hb
     (try clear hb);(try clear hb2);(try clear hk);(try clear hi);(try clear ho0)
     refine hK.out _ _ trivial (fun hHeld=>?_)
     clear hK K
     refine norm_ (a':=?_) ?_ ?_
     rotate_left
     ·show Act.put _ (some 25) _=_
      simp only[Act.put,kss,i64_w,i32_w]
      rfl
     refine two_ (i:=2) (j:=8) (Ni:=some 23) (Nj:=some 29) (bm_ 15 255) (bm_ 15 507) rfl rfl rfl rfl (two_of HT_.out Z0) X0 X0 (fun K hK=>?_) (fun K hK=>?_)
     ·skip
      refine Kd.R_make_step (Kd.int .u64) _ 48 B0 (N:=23) rfl 26 _ _ rfl aj rfl rfl Tryz.underlying26 (.int .u64 0) 8 info48 rfl X0 Y0 0 (ok:=fun _=>True) (okp:=fun _=>True) rfl (fun _ hk=>hk) trivial (of_decide_eq_true ‹_›) (Nat.le_trans (Nat.mul_le_mul_right _ (of_decide_eq_true ‹_›:aj.toNat≤35184372088832)) Y0) (Below.refl _ _) (Nat.le_refl _) ?_
      intro ak w40 ao hb hg_ hnew_
      clear hg_ hnew_
      (first|rw[←ar.out]at ao|(simp only[Int.reduceToNat]at ao;rw[←ar.out]at ao))
      replace HO0:=Aside0.mk (Kd.V_elder' (kvu HO0.out) (Kd.R_base ao) hb);replace HO698:=Aside0.mk (Kd.N_elder' D0 (Kd.R_base ao) hb);replace HO702:=Aside0.mk (Kd.V_elder' (kvu HO702.out) (Kd.R_base ao) hb);replace ac:=Aside0.mk (Kd.V_elder' (kvu ac.out) (Kd.R_base ao) hb);have HO705:=Aside0.mk (Kd.R_lower (Kd.R_newM (M:=fun k_=>(w.heap.size≤k_)) ao (below_size (khu HB.out)) (fun k_ h_=>h_)) (below_size (khu HB.out)));replace HB:=kbs HB hb
      clear hb ao
      obtain⟨aD,aE,aG⟩:=Kd.V_slice ac.out
      (first|subst aG|(injection aG with f1_ f2_ f3_;have f4_:=f1_.symm;have f5_:=f3_.symm;clear f1_ f2_ f3_;subst f4_;subst f5_))
      refine hK.out _ _ trivial (fun hHeld=>?_)
      clear hK K
      refine norm_ (a':=?_) ?_ ?_
      rotate_left
      ·show Act.put _ (some 23) _=_
       simp only[Act.put,kss,i64_w,i32_w]
       rfl
      refine one_ (i:=8) (N:=some 29) (bm_ 15 511) rfl rfl (one_of HT_.out Z0) X0 (fun K hK=>?_)
      refine kgo Tryz.func166 #[.slice aD af.length aE,.int .u64 (IntKind.u64.wrap (Int.tmod a1 64))] B0 rfl rfl ?_
      with_reducible refine(nat_shl.calls k _ _ af (IntKind.u64.wrap (Int.tmod a1 64)) aa _ ?side1 ?side2 A29.out).mono ?_
      (case side1=>repeat (first|exact(Kd.V_reads' ac.out).2.2|(with_reducible refine Kd.C_alloc ?_ _)|(with_reducible refine Kd.C_drewN ?_ _)|(with_reducible refine Kd.C_drew ?_)))
      (case side2=>exact(Kd.V_reads' ac.out).2.1)
      rintro e w43 ⟨al,rfl,ho0,hb⟩
      refine⟨_,rfl,?_⟩
      replace HO0:=Aside0.mk (Kd.V_elder' (kvu HO0.out) (Kd.R_base ho0) hb);replace HO698:=Aside0.mk (Kd.N_elder' D0 (Kd.R_base ho0) hb);replace HO702:=Aside0.mk (Kd.V_elder' (kvu HO702.out) (Kd.R_base ho0) hb);replace ac:=Aside0.mk (Kd.V_elder' (kvu ac.out) (Kd.R_base ho0) hb);have HO711:=Aside0.mk (Kd.R_lower (Kd.R_new' (Kd.R_newM (M:=fun k_=>(w.heap.size≤k_)) ho0 (below_size (khu HB.out)) (fun k_ h_=>h_)) (Kd.R_lt (kru HO705.out))) (below_size (khu HB.out)));replace HO705:=Aside0.mk (Kd.R_elder' (kru HO705.out) (Kd.R_base ho0) hb);replace HB:=kbs HB hb
      (try clear hb);(try clear hb2);(try clear hk);(try clear hi);(try clear ho0)
      refine hK.out _ _ trivial (fun hHeld=>?_)
      clear hK K
      refine norm_ (a':=?_) ?_ ?_
      rotate_left
      ·show Act.put _ (some 29) _=_
       simp only[Act.put,kss,i64_w,i32_w]
       rfl
      exact norm_ X4 (hCont (ak,.slice aD af.length aE,al) _ ⟨F4,U5,U4,Z4,(by(with_reducible repeat (first|apply Kd.V_alloc|apply Kd.V_drewN|apply Kd.V_drew));exact Kd.V_mono ac.out (fun _ hk=>⟨hk.1.1.1,⟨hk.1.1.2,⟨hk.1.2,hk.2⟩⟩⟩)),D3,(khu HB.out)⟩)
     skip
     obtain⟨bc,bd,be⟩:=Kd.V_slice ac.out
     (first|subst be|(injection be with f1_ f2_ f3_;have f4_:=f1_.symm;have f5_:=f3_.symm;clear f1_ f2_ f3_;subst f4_;subst f5_))
     refine kgo Tryz.func166 #[.slice bc af.length bd,.int .u64 (IntKind.u64.wrap (Int.tmod a1 64))] B0 rfl rfl ?_
     with_reducible refine(nat_shl.calls k _ _ af (IntKind.u64.wrap (Int.tmod a1 64)) aa _ ?side1 ?side2 A29.out).mono ?_
     (case side1=>repeat (first|exact(Kd.V_reads' ac.out).2.2|(with_reducible refine Kd.C_alloc ?_ _)|(with_reducible refine Kd.C_drewN ?_ _)|(with_reducible refine Kd.C_drew ?_)))
     (case side2=>exact(Kd.V_reads' ac.out).2.1)
     rintro e w41 ⟨al,rfl,ho0,hb⟩
     refine⟨_,rfl,?_⟩
     replace HO0:=Aside0.mk (Kd.V_elder' (kvu HO0.out) (Kd.R_base ho0) hb);replace HO698:=Aside0.mk (Kd.N_elder' D0 (Kd.R_base ho0) hb);replace HO702:=Aside0.mk (Kd.V_elder' (kvu HO702.out) (Kd.R_base ho0) hb);replace ac:=Aside0.mk (Kd.V_elder' (kvu ac.out) (Kd.R_base ho0) hb);have HO711:=Aside0.mk (Kd.R_lower (Kd.R_newM (M:=fun k_=>(w.heap.size≤k_)) ho0 (below_size (khu HB.out)) (fun k_ h_=>h_)) (below_size (khu HB.out)));replace HB:=kbs HB hb
     (try clear hb);(try clear hb2);(try clear hk);(try clear hi);(try clear ho0)
     refine hK.out _ _ trivial (fun hHeld=>?_)
     clear hK K
     refine norm_ (a':=?_) ?_ ?_
     rotate_left
     ·show Act.put _ (some 29) _=_
      simp only[Act.put,kss,i64_w,i32_w]
      rfl
     refine one_ (i:=2) (N:=some 23) (bm_ 15 511) rfl rfl (one_of HT_.out Z0) X0 (fun K hK=>?_)
     refine Kd.R_make_step (Kd.int .u64) _ 48 B0 (N:=23) rfl 26 _ _ rfl aj rfl rfl Tryz.underlying26 (.int .u64 0) 8 info48 rfl X0 Y0 0 (ok:=fun _=>True) (okp:=fun _=>True) rfl (fun _ hk=>hk) trivial (of_decide_eq_true ‹_›) (Nat.le_trans (Nat.mul_le_mul_right _ (of_decide_eq_true ‹_›:aj.toNat≤35184372088832)) Y0) (Below.refl _ _) (Nat.le_refl _) ?_
     intro ak w42 an hb hg_ hnew_
     clear hg_ hnew_
     (first|rw[←ar.out]at an|(simp only[Int.reduceToNat]at an;rw[←ar.out]at an))
     replace HO0:=Aside0.mk (Kd.V_elder' (kvu HO0.out) (Kd.R_base an) hb);replace HO698:=Aside0.mk (Kd.N_elder' D0 (Kd.R_base an) hb);replace HO702:=Aside0.mk (Kd.V_elder' (kvu HO702.out) (Kd.R_base an) hb);replace ac:=Aside0.mk (Kd.V_elder' (kvu ac.out) (Kd.R_base an) hb);have HO705:=Aside0.mk (Kd.R_lower (Kd.R_new' (Kd.R_newM (M:=fun k_=>(w.heap.size≤k_)) an (below_size (khu HB.out)) (fun k_ h_=>h_)) (Kd.R_lt (kru HO711.out))) (below_size (khu HB.out)));replace HO711:=Aside0.mk (Kd.R_elder' (kru HO711.out) (Kd.R_base an) hb);replace HB:=kbs HB hb
     clear hb an
     refine hK.out _ _ trivial (fun hHeld=>?_)
     clear hK K
     refine norm_ (a':=?_) ?_ ?_
     rotate_left
     ·show Act.put _ (some 23) _=_
      simp only[Act.put,kss,i64_w,i32_w]
      rfl
     exact norm_ X4 (hCont (ak,.slice bc af.length bd,al) _ ⟨(by(with_reducible repeat (first|apply Kd.V_alloc|apply Kd.V_drewN|apply Kd.V_drew));exact Kd.V_mono HO0.out (fun _ hk=>⟨hk.1.1.1,⟨hk.1.1.2,⟨hk.2,hk.1.2⟩⟩⟩)),(by(with_reducible repeat (first|apply Kd.N_alloc|apply Kd.N_drewN|apply Kd.N_drew));exact Kd.N_mono HO698.out (fun _ hk=>⟨hk.1.1,⟨hk.2,hk.1.2⟩⟩)),(by(with_reducible repeat (first|apply Kd.V_alloc|apply Kd.V_drewN|apply Kd.V_drew));exact Kd.V_mono HO702.out (fun _ hk=>⟨hk.1.1.1,⟨hk.1.1.2,⟨hk.2,hk.1.2⟩⟩⟩)),Z4,(by(with_reducible repeat (first|apply Kd.V_alloc|apply Kd.V_drewN|apply Kd.V_drew));exact Kd.V_mono ac.out (fun _ hk=>⟨hk.1.1.1,⟨hk.1.1.2,⟨hk.2,hk.1.2⟩⟩⟩)),D3,(khu HB.out)⟩)
    rintro⟨ak,aP,al⟩ w44 ⟨h0_,h1_,h2_,h3_,h4_,h5_,h6_⟩
    have n0_:Aside0 (Kd.V (Kd.int .u64) 48 w44 w.heap.size (fun k_=>(P0_ k_∨w.heap.size≤k_)∧some k_≠(.slice ah ad.length ai:Value).ownBlock∧some k_≠(ak:Value).ownBlock∧some k_≠(al:Value).ownBlock) (.slice A0 l0.length c0) l0):=⟨h0_⟩
    have n1_:Aside0 (Kd.N (Kd.slice 48 (Kd.int .u64)) 26 w44 w.heap.size (fun k_=>(P0_ k_∨w.heap.size≤k_)∧some k_≠(ak:Value).ownBlock∧some k_≠(al:Value).ownBlock) (.slice ah ad.length ai) ad):=⟨h1_⟩
    have n2_:Aside0 (Kd.V (Kd.int .u64) 48 w44 w.heap.size (fun k_=>(P0_ k_∨w.heap.size≤k_)∧some k_≠(.slice ah ad.length ai:Value).ownBlock∧some k_≠(ak:Value).ownBlock∧some k_≠(al:Value).ownBlock) (.slice aZ ag.length bb) ag):=⟨h2_⟩
    have n3_:Aside0 (Kd.R (Kd.int .u64) 48 w44 w.heap.size (fun k_=>(w.heap.size≤k_)∧some k_≠(al:Value).ownBlock) ak ae):=⟨h3_⟩
    have n4_:Aside0 (Kd.V (Kd.int .u64) 48 w44 w.heap.size (fun k_=>(P0_ k_∨w.heap.size≤k_)∧some k_≠(.slice ah ad.length ai:Value).ownBlock∧some k_≠(ak:Value).ownBlock∧some k_≠(al:Value).ownBlock) aP af):=⟨h4_⟩
    have n5_:Aside0 (Kd.R (Kd.int .u64) 48 w44 w.heap.size (fun k_=>(w.heap.size≤k_)∧some k_≠(ak:Value).ownBlock) al aa):=⟨h5_⟩
    have n6_:Aside0 (Below w.heap.size w w44):=⟨h6_⟩
    clear HO0
    clear HO698
    clear HO702
    clear HB
    clear h0_ h1_ h2_ h3_ h4_ h5_ h6_
    have HO0:=n0_
    have HO698:=n1_
    have HO702:=n2_
    have HO705:=n3_
    have ac:=n4_
    have HO711:=n5_
    have HB:=n6_
    clear n0_ n1_ n2_ n3_ n4_ n5_ n6_
    have hHeld:=trivial
    obtain⟨aH,aI,bf⟩:=Kd.R_slice HO711.out
    (first|subst bf|(injection bf with f1_ f2_ f3_;have f4_:=f1_.symm;have f5_:=f3_.symm;clear f1_ f2_ f3_;subst f4_;subst f5_))
    refine norm_ (a':=?_) ?_ ?_
    rotate_left
    ·simp only[putAll,Act.put,kss]
     rfl
    refine one_ (i:=9) (N:=some 30) (bm_ 15 1023) rfl rfl (one_of HT_.out Z0) X0 (fun K hK=>?_)
    refine Kd.R_append_rows_step (Kd.int .u64) (w0:=w) w.heap.size B0 (.tmp 23) (.tmp 29) 26 48 (.int .u64 0) 8 rfl Tryz.underlying26 info48 rfl X0 Y0 ak ae aa _ _ _ (fun k_=>(w.heap.size≤k_)∧some k_≠(.slice aH aa.length aI:Value).ownBlock) (fun _=>False) rfl rfl ?aO ?aR (fun _ _ h=>h) (fun _ h=>h.elim) ?aF ?aB ?aS ?aL ?_
    (case aR=>repeat (first|exact(Kd.R_reads' HO711.out).2.2|(with_reducible refine Kd.C_alloc ?_ _)|(with_reducible refine Kd.C_drewN ?_ _)|(with_reducible refine Kd.C_drew ?_)))
    (case aB=>exact(khu HB.out))
    (case aF=>exact(fun k_ hk=>⟨(Nat.le_trans (below_size (khu HB.out)) hk),Kd.fresh' (Kd.R_lt (kru HO711.out)) k_ hk⟩))
    (case aO=>exact(kru HO705.out))
    (case aS=>exact(below_size (khu HB.out)))
    (case aL=>have:=bn.out;omega)
    intro bK w45 ho hb hg hat
    rw[←bo.out]at ho
    replace HO0:=Aside0.mk (Kd.V_afterv (ok:=(fun k_=>(P0_ k_∨w.heap.size≤k_)∧some k_≠(.slice ah ad.length ai:Value).ownBlock∧some k_≠(.slice aH aa.length aI:Value).ownBlock)) (by(with_reducible repeat (first|apply Kd.V_alloc|apply Kd.V_drewN|apply Kd.V_drew));exact Kd.V_mono HO0.out (fun _ hk=>⟨⟨hk.1,⟨hk.2.1,hk.2.2.2⟩⟩,hk.2.2.1⟩)) hg hat);replace HO698:=Aside0.mk (Kd.N_afterv (ok:=(fun k_=>(P0_ k_∨w.heap.size≤k_)∧some k_≠(.slice aH aa.length aI:Value).ownBlock)) (by(with_reducible repeat (first|apply Kd.N_alloc|apply Kd.N_drewN|apply Kd.N_drew));exact Kd.N_mono HO698.out (fun _ hk=>⟨⟨hk.1,hk.2.2⟩,hk.2.1⟩)) hg hat);replace HO702:=Aside0.mk (Kd.V_afterv (ok:=(fun k_=>(P0_ k_∨w.heap.size≤k_)∧some k_≠(.slice ah ad.length ai:Value).ownBlock∧some k_≠(.slice aH aa.length aI:Value).ownBlock)) (by(with_reducible repeat (first|apply Kd.V_alloc|apply Kd.V_drewN|apply Kd.V_drew));exact Kd.V_mono HO702.out (fun _ hk=>⟨⟨hk.1,⟨hk.2.1,hk.2.2.2⟩⟩,hk.2.2.1⟩)) hg hat);replace ac:=Aside0.mk (Kd.V_afterv (ok:=(fun k_=>(P0_ k_∨w.heap.size≤k_)∧some k_≠(.slice ah ad.length ai:Value).ownBlock∧some k_≠(.slice aH aa.length aI:Value).ownBlock)) (by(with_reducible repeat (first|apply Kd.V_alloc|apply Kd.V_drewN|apply Kd.V_drew));exact Kd.V_mono ac.out (fun _ hk=>⟨⟨hk.1,⟨hk.2.1,hk.2.2.2⟩⟩,hk.2.2.1⟩)) hg hat);replace HO711:=Aside0.mk (Kd.R_after (ok:=(fun k_=>(w.heap.size≤k_))) (kru HO711.out) hg hat);replace HB:=Aside0.mk (hb);have ax:=Aside0.mk (ho);clear HO705
    clear ho hb hg hat
    obtain⟨bg,bh,bi⟩:=Kd.R_slice ax.out
    (first|subst bi|(injection bi with f1_ f2_ f3_;have f4_:=f1_.symm;have f5_:=f3_.symm;clear f1_ f2_ f3_;subst f4_;subst f5_))
    refine hK.out _ _ trivial (fun hHeld=>?_)
    clear hK K
    refine norm_ (a':=?_) ?_ ?_
    rotate_left
    ·show Act.put _ (some 30) _=_
     simp only[Act.put,kss,i64_w,i32_w]
     rfl
    refine one_ (i:=10) (N:=some 31) (bm_ 15 2047) rfl rfl (one_of HT_.out Z0) X0 (fun K hK=>?_)
    refine kgo Tryz.func165 #[.slice bg aJ.length bh] B0 rfl rfl ?_
    with_reducible refine(nat_out.calls k (fun k_=>some k_=(.slice bg aJ.length bh:Value).ownBlock) _ _ aJ aW aX _ ?side1 A31.out).mono ?_
    (case side1=>exact Kd.R_V (Kd.R_tight rfl (Kd.R_apart' (ax.out) (Kd.N_typed HO698.out) X0)))
    rintro e w48 ⟨bL,rfl,ho0,hb⟩
    refine⟨_,rfl,?_⟩
    replace HO0:=Aside0.mk (Kd.V_elder' (kvu HO0.out) (Kd.R_base ho0) hb);replace HO698:=Aside0.mk (Kd.N_elder' D0 (Kd.R_base ho0) hb);replace HO702:=Aside0.mk (Kd.V_elder' (kvu HO702.out) (Kd.R_base ho0) hb);replace ac:=Aside0.mk (Kd.V_elder' (kvu ac.out) (Kd.R_base ho0) hb);have bp:=Aside0.mk (Kd.R_lower (Kd.R_new' (Kd.R_new' (Kd.R_newM (M:=fun k_=>(w.heap.size≤k_)) (Kd.R_mono (ok':=fun k_=>True) ho0 (fun _ hk_=>trivial)) (below_size (khu HB.out)) (fun k_ h_=>h_)) (Kd.R_lt (kru HO711.out))) (Kd.R_lt (kru ax.out))) (below_size (khu HB.out)));replace HO711:=Aside0.mk (Kd.R_elder' (kru HO711.out) (Kd.R_base ho0) hb);replace ax:=Aside0.mk (Kd.R_elder' (kru ax.out) (Kd.R_base ho0) hb);replace HB:=kbs HB hb
    (try clear hb);(try clear hb2);(try clear hk);(try clear hi);(try clear ho0)
    refine hK.out _ _ trivial (fun hHeld=>?_)
    clear hK K
    refine norm_ (a':=?_) ?_ ?_
    rotate_left
    ·show Act.put _ (some 31) _=_
     simp only[Act.put,kss,i64_w,i32_w]
     rfl
    refine pu_ 11 32 ?_ (bm_ 15 4095) rfl rfl (any_of HT_.out Z0) (fun _ _ _ h=>h) B0 ?_ ?_ ?_ ?_
    rotate_left
    ·intro w'
     go_simp
     with_reducible rfl
    rotate_left
    ·simp only[Act.put,kss,i64_w,i32_w]
     rfl
    refine pu_ 12 33 ?_ (bm_ 15 8191) rfl rfl (any_of HT_.out Z0) (fun _ _ _ h=>h) B0 ?_ ?_ ?_ ?_
    rotate_left
    ·intro w'
     go_simp
     with_reducible rfl
    rotate_left
    ·simp only[Act.put,kss,i64_w,i32_w]
     rfl
    refine pu_ 13 4 ?_ (bm_ 15 16383) rfl rfl (any_of HT_.out Z0) (fun _ _ _ h=>h) B0 ?_ ?_ ?_ ?_
    rotate_left
    ·intro w'
     go_simp
     with_reducible rfl
    rotate_left
    ·simp only[Act.put,kss,i64_w,i32_w]
     rfl
    refine pu_ 14 5 ?_ (bm_ 15 32767) rfl rfl (any_of HT_.out Z0) (fun _ _ _ h=>h) B0 ?_ ?_ ?_ ?_
    rotate_left
    ·intro w'
     go_simp
     with_reducible rfl
    rotate_left
    ·simp only[Act.put,kss,i64_w,i32_w]
     rfl
    refine done_ (done_of HT_.out Z0) ?_
    try go_wp2
    go_ret2
    exact⟨_,by first|rfl|(simp[errW_none,errW_some]<;>rfl)|(simp only[←aq];first|rfl|(simp[errW_none,errW_some]<;>rfl))|(simp[*,errW_none,errW_some]<;>rfl),by(with_reducible repeat (first|apply Kd.R_alloc|apply Kd.R_drewN|apply Kd.R_drew));exact Kd.R_mono bp.out (fun _ hk=>hk.1.1.1),khu HB.out⟩
   rw[if_neg c30]at H
   exact absurd H F1
  rw[if_neg c27]at H
  exact absurd H F1
 rw[if_neg c26]at H
 exact absurd H F1
def bits_power.f (k:Nat) (a0:Int):Option (Bool×List Int):=(nat_Shl.f k (([1]:List Int)) a0).bind fun bt723=>(some (false,bt723.1))
theorem bits_power.mono:∀a0 k,LeO (bits_power.f k a0) (bits_power.f (k+1) a0):=by
 intro a0 k
 unfold bits_power.f
 repeat' first
   | (with_reducible exact nat_Shl.mono _ _ _)
   | (with_reducible exact LeO.refl _)
   | (with_reducible exact LeO.none _)
   | (with_reducible refine LeO.ite ?_ ?_)
   | (with_reducible refine LeO.bind ?_ (fun _=>?_))
   | exact nat_Shl.mono _ _ _
   | exact LeO.none _
   | refine LeO.ite ?_ ?_
   | refine LeO.bind ?_ (fun _=>?_)
theorem bits_power.calls (k:Nat) (a0:Int) (r1:Bool) (r2:List Int) (w:World) (h:bits_power.f k a0=some (r1,r2)) :
  Calls Tryz.prog 72 #[.int .i64 a0] w fun e w'=>∃v1_:Value,e=.returned (.agg #[.bool r1,v1_])∧Kd.R (Kd.int .u64) 48 w' w.heap.size (fun _=>True) v1_ r2∧Below w.heap.size w w':=by
 have aq:=Tryz.underlying43
 have HB:=Aside0.mk (Below.refl w.heap.size w)
 have H:((nat_Shl.f k (([1]:List Int)) a0).bind fun ae=>(some (false,ae.1)))=some (r1,r2):=h
 clear h
 obtain⟨af,ab⟩:∃y_:List Int,y_=(([1]:List Int)):=⟨_,rfl⟩
 replace H:((nat_Shl.f k af a0).bind fun ae=>(some (false,ae.1)))=some (r1,r2):=by first|(rw[ab];with_reducible exact H)|(have H2_:=(Option.bind_some _ _).symm.trans H;rw[ab];with_reducible exact H2_)|(have H2_:=(Option.bind_some _ _).symm.trans H;with_reducible exact H2_)|with_reducible exact H|(rw[ab];exact H)|exact H
 have ah:=Aside0.mk ab
 clear ab
 replace H:=Option.bind_eq_some_iff.mp H
 obtain⟨⟨ag,ak⟩,A20,H⟩:=H
 replace H:(some (false,ag))=some (r1,r2):=H
 have A2:=Aside0.mk A20
 clear A20
 simp only[Option.some.injEq,Prod.mk.injEq]at H
 obtain⟨rfl,rfl⟩:=H
 go_enter Tryz.func72,Tryz.ntmps72
 go_wp2_with (first|(refine gd 2 rfl ?_;refine kbe 2 #[.bool false,.slice none 0 0] 43 ?_;intro ac hg w3 hbox hb;have aa:=Aside0.mk (hbox);have ap:=kbz hg HB;have aj:=kbz hg HB;replace HB:=kbs HB hb;clear hb hbox hg)|(refine gd 6 rfl ?_;refine Kd.R_lit (Kd.int .u64) _ 48 ?hg (N:=6) ?hd (xs:=([1]:List Int)) (inner:=[.int .u64 1]) (ok:=fun _=>True) (okp:=fun _=>True) ?hr ?hp (fun _ hk=>hk) trivial (Below.refl _ _) (Nat.le_refl _) F1 ?_;(case hd=>rfl);(case hg=>rfl);(case hr=>first|(go_simp;done)|(go_simp;rfl));(case hp=>exact(Reps.one (show Kd.M (Kd.int .u64) _ _ _ 1 [.int .u64 1] from rfl) (Reps.none _ _)));intro ar w4 ho5 hb hg_ hnew_;clear hg_ hnew_;(first|rw[←ah.out]at ho5|(simp only[Int.reduceToNat]at ho5;rw[←ah.out]at ho5));have ad:=Aside0.mk (Kd.R_lower ho5 (below_size (khu HB.out)));replace aa:=kbb aa hb;replace HB:=kbs HB hb;clear hb ho5;obtain⟨Ao6,co6,eo6⟩:=Kd.R_slice ad.out;subst eo6)|((with_reducible refine gate_callee (f:=148) rfl ?_);refine kgl (some 8) rfl rfl Tryz.func148 #[.slice Ao6 af.length co6,.int .i64 a0] rfl ?_;(with_reducible refine(nat_Shl.calls k (fun k_=>some k_=(.slice Ao6 af.length co6:Value).ownBlock) _ _ af a0 ag ak _ ?side1 A2.out).mono ?_);(case side1=>exact Kd.R_V (Kd.R_tight rfl (Kd.R_types (ad.out) aa.out X0)));rintro e w7 ⟨au,rfl,ho0,hb⟩;refine⟨_,rfl,?_⟩;have ai:=Aside0.mk (Kd.R_lower (Kd.R_new' (Kd.R_mono (ok':=fun k_=>True) ho0 (fun _ hk_=>trivial)) (Kd.R_lt (kru ad.out))) (below_size (khu HB.out)));replace ad:=Aside0.mk (Kd.R_elder' (kru ad.out) (Kd.R_base ho0) hb);replace aa:=kbb aa hb;replace HB:=kbs HB hb;(try clear hb);(try clear hb2);(try clear hk);(try clear hi);(try clear ho0);obtain⟨Ao8,co8,eo8⟩:=Kd.R_slice ai.out;subst eo8;have al:w7.cell? ⟨ac,0,none⟩=some (.bool false):=(blk_cell aa.out 0).trans rfl;have am:w7.cell? ⟨ac,1,none⟩=some (.slice none 0 0):=(blk_cell aa.out 1).trans rfl;have an:=blk_frozen aa.out 0;have ao:=blk_frozen aa.out 1))
 refine bodyPost_ret (results_cell_row rfl _ _ ac 43 #[.bool false,.slice Ao8 ag.length co8] (0,0) _ rfl (kpu #[.bool false,.slice none 0 0] 1 (kpu #[.bool false,.slice none 0 0] 0 (kbu aa.out))) Tryz.underlying43 rfl Z0) rfl ?_
 exact⟨_,Z1,by(with_reducible repeat (first|apply Kd.R_alloc|apply Kd.R_drewN|apply Kd.R_drew));exact Kd.R_mono (Kd.R_far (p:=⟨ac,1,none⟩) (Kd.R_far (p:=⟨ac,0,none⟩) (Kd.R_types ai.out aa.out X0) (fun _ hk=>hk.2) (.bool false)) (fun _ hk=>hk.2) (.slice Ao8 ag.length co8)) (fun _ hk=>trivial),by repeat (first|(with_reducible first|exact HB.out|apply below_alloc|apply pw_below_drewN|apply below_drew1|refine below_set ?_ aj.out)|exact HB.out)⟩
def nat_Bit.f (l0:List Int) (a1:Int):Option (Bool):=if a1≥0 then(if(wrap64 (Int.tdiv a1 64))<(l0.length:Int) then(if 0≤(wrap64 (Int.tdiv a1 64)) then(if 0≤(IntKind.u64.wrap (Int.tmod a1 64)) then(some ((Go.bits .and .u64 (shr .u64 (rd l0 (wrap64 (Int.tdiv a1 64))) (IntKind.u64.wrap (Int.tmod a1 64))) 1)==1)) else(none)) else(none)) else(some false)) else(some false)
theorem nat_Bit.calls (A0:Option Addr) (c0:Nat) (l0:List Int) (a1:Int) (r:Bool) (w:World) (hr0:Kd.C (Kd.int .u64) w A0 l0.length l0) (hc0:l0.length≤c0) (h:nat_Bit.f l0 a1=some r) :
  Calls Tryz.prog 88 #[.slice A0 l0.length c0,.int .i64 a1] w fun e w'=>e=.returned (.bool r)∧Drawn0 w w':=by
 have HR0:=Aside0.mk hr0
 have HC0:=Aside0.mk hc0
 clear hr0 hc0
 have H:(if a1≥0 then(if(wrap64 (Int.tdiv a1 64))<(l0.length:Int) then(if 0≤(wrap64 (Int.tdiv a1 64)) then(if 0≤(IntKind.u64.wrap (Int.tmod a1 64)) then(some ((Go.bits .and .u64 (shr .u64 (rd l0 (wrap64 (Int.tdiv a1 64))) (IntKind.u64.wrap (Int.tmod a1 64))) 1)==1)) else(none)) else(none)) else(some false)) else(some false))=some r:=h
 clear h
 by_cases c3:a1≥0
 ·rw [if_pos c3]at H
  have af:decide (0≤a1)=true:=decide_eq_true c3
  clear c3
  by_cases c4:(wrap64 (Int.tdiv a1 64))<(l0.length:Int)
  ·rw[if_pos c4]at H
   have ae:decide ((wrap64 (Int.tdiv a1 64))<(l0.length:Int))=true:=decide_eq_true c4
   clear c4
   obtain⟨ji5,hji5⟩:∃j_:Int,(wrap64 (Int.tdiv a1 64))=j_:=⟨_,rfl⟩
   replace H:(if 0≤(ji5) then(if 0≤(IntKind.u64.wrap (Int.tmod a1 64)) then(some ((Go.bits .and .u64 (shr .u64 (rd l0 (ji5)) (IntKind.u64.wrap (Int.tmod a1 64))) 1)==1)) else(none)) else(none))=some r:=by first|(rw[hji5]at H;exact H)|(simp only[hji5]at H ⊢;exact H)
   (try rw[hji5]at ae)
   have ai:(IntKind.i64.wrap (Int.tdiv a1 64))=ji5:=(i64_w _).trans hji5
   by_cases c6:0≤(ji5)
   ·rw[if_pos c6]at H
    have al:decide (0≤(ji5))=true:=decide_eq_true c6
    clear c6
    obtain⟨ji7,ab⟩:∃j_:Int,(IntKind.u64.wrap (Int.tmod a1 64))=j_:=⟨_,rfl⟩
    replace H:(if 0≤(ji7) then(some ((Go.bits .and .u64 (shr .u64 (rd l0 (ji5)) (ji7)) 1)==1)) else(none))=some r:=by first|(rw[ab]at H;exact H)|(simp only[ab]at H ⊢;exact H)
    by_cases c8:0≤(ji7)
    ·rw[if_pos c8]at H
     have am:=eq_true c8
     have an:decide (0≤(ji7))=true:=decide_eq_true c8
     clear c8
     obtain⟨ji9,aa⟩:∃j_:Int,(shr .u64 (rd l0 (ji5)) (ji7))=j_:=⟨_,rfl⟩
     replace H:(some ((Go.bits .and .u64 (ji9) 1)==1))=some r:=by first|(rw[aa]at H;exact H)|(simp only[aa]at H ⊢;exact H)
     have hji9_:((rd l0 (ji5))/2^min (ji7).toNat 64)=ji9:=aa
     have aj:(ji7)≤64→((rd l0 (ji5))/2^(ji7).toNat)=ji9:=shr_small aa
     obtain rfl:=Option.some.inj H
     have ac:0≤((ji5):Int):=of_decide_eq_true ‹_›
     have ad:(ji5)<(l0.length:Int):=of_decide_eq_true ‹_›
     obtain⟨ak,ag,ah⟩:=Kd.at_int HR0.out (ji5) ac ad
     cases ag
     replace ac:=eq_true ac
     replace ad:=eq_true ad
     go_enter Tryz.func88,Tryz.ntmps88
     go_wp2
     go_ret
     exact⟨by first|rfl|(simp;done)|(simp only[←hji5,←ab,←aa]<;>(first|rfl|simp))|(simp[*];done),Y1⟩
    rw[if_neg c8]at H
    exact absurd H F1
   rw[if_neg c6]at H
   exact absurd H F1
  rw[if_neg c4]at H
  have ae:decide ((wrap64 (Int.tdiv a1 64))<(l0.length:Int))=false:=decide_eq_false c4
  clear c4
  obtain rfl:=Option.some.inj H
  go_enter Tryz.func88,Tryz.ntmps88
  go_wp2
  go_ret
  exact⟨F0,Y1⟩
 rw[if_neg c3]at H
 have af:decide (0≤a1)=false:=decide_eq_false c3
 clear c3
 obtain rfl:=Option.some.inj H
 go_enter Tryz.func88,Tryz.ntmps88
 go_wp2
 go_ret
 exact⟨F0,Y1⟩
def bits_s.f (k:Nat) (a0_0:Int) (l0_1:List Int):Option (Bool×List Int):=(nat_Bit.f l0_1 (wrap64 (a0_0-1))).bind fun t778=>(if t778=true then((bits_u.f k a0_0 l0_1).bind fun bt779=>((bits_power.f k a0_0).bind fun bt783=>((whole_Sub.f k bt779.1 bt779.2 bt783.1 bt783.2).bind fun bt787=>(some (bt787.1,bt787.2.1))))) else((bits_u.f k a0_0 l0_1).bind fun bt793=>(some (bt793.1,bt793.2))))
theorem bits_s.mono:∀a0 a1 k,LeO (bits_s.f k a0 a1) (bits_s.f (k+1) a0 a1):=by
 intro a0 a1 k
 unfold bits_s.f
 repeat' first
   | (with_reducible exact bits_power.mono _ _)
   | (with_reducible exact bits_u.mono _ _ _)
   | (with_reducible exact whole_Sub.mono _ _ _ _ _)
   | (with_reducible exact LeO.refl _)
   | (with_reducible exact LeO.none _)
   | (with_reducible refine LeO.ite ?_ ?_)
   | (with_reducible refine LeO.bind ?_ (fun _=>?_))
   | exact bits_power.mono _ _
   | exact bits_u.mono _ _ _
   | exact whole_Sub.mono _ _ _ _ _
   | exact LeO.none _
   | refine LeO.ite ?_ ?_
   | refine LeO.bind ?_ (fun _=>?_)
def bits_s.T3:Bool×List (List Nat×List Nat):=(true,[([],[]),([0],[0]),([],[]),([2],[2]),([3,1],[3]),([1,4,4],[1,4]),([5],[5]),([6],[6]),([6],[6]),([],[]),([9,7,5,0,1,2,3,4,5,6,7,9],[7,9]),([8,10,0,1,2,3,4,5,6,7,8,9,10],[8])])
def bits_s.B3:List Nat:=[0,1,0,4,15,31,63,127,127,0,767,2047]
theorem bits_s.tab3:rtab .any (opsOf Tryz.f44 3)=bits_s.T3:=by kernel_rfl
theorem bits_s.bits3:waitsOk bits_s.T3.2 bits_s.B3=true:=by kernel_rfl
theorem bits_s.calls (k:Nat) (ac:Int) (am:Option Addr) (an:Nat) (af:List Int) (r1:Bool) (r2:List Int) (w:World) (aX:Kd.C (Kd.int .u64) w am af.length af) (aY:af.length≤an) (h:bits_s.f k ac af=some (r1,r2)) :
  Calls Tryz.prog 44 #[.agg #[.int .i64 ac,.slice am af.length an]] w fun e w'=>∃v1_:Value,e=.returned (.agg #[.bool r1,v1_])∧Kd.R (Kd.int .u64) 48 w' w.heap.size (fun _=>True) v1_ r2∧Below w.heap.size w w':=by
 have cd:=Tryz.underlying28
 have ce:=Tryz.underlying43
 have aM:=Aside0.mk aX
 have aN:=Aside0.mk aY
 clear aX aY
 have HB:=Aside0.mk (Below.refl w.heap.size w)
 have H:((nat_Bit.f af (wrap64 (ac-1))).bind fun aR=>(if aR=true then((bits_u.f k ac af).bind fun aC=>((bits_power.f k ac).bind fun ar=>((whole_Sub.f k aC.1 aC.2 ar.1 ar.2).bind fun aq=>(some (aq.1,aq.2.1))))) else((bits_u.f k ac af).bind fun aD=>(some (aD.1,aD.2)))))=some (r1,r2):=h
 clear h
 replace H:=Option.bind_eq_some_iff.mp H
 obtain⟨aR,A20,H⟩:=H
 replace H:(if aR=true then((bits_u.f k ac af).bind fun aC=>((bits_power.f k ac).bind fun ar=>((whole_Sub.f k aC.1 aC.2 ar.1 ar.2).bind fun aq=>(some (aq.1,aq.2.1))))) else((bits_u.f k ac af).bind fun aD=>(some (aD.1,aD.2))))=some (r1,r2):=H
 have A2:=Aside0.mk A20
 clear A20
 by_cases c3:aR=true
 ·subst c3
  have H1:((bits_u.f k ac af).bind fun aC=>((bits_power.f k ac).bind fun ar=>((whole_Sub.f k aC.1 aC.2 ar.1 ar.2).bind fun aq=>(some (aq.1,aq.2.1)))))=some (r1,r2):=by rw[if_pos rfl]at H;exact H
  clear H
  have H:=H1
  clear H1
  replace H:=Option.bind_eq_some_iff.mp H
  obtain⟨⟨au,ao⟩,A40,H⟩:=H
  replace H:((bits_power.f k ac).bind fun ar=>((whole_Sub.f k au ao ar.1 ar.2).bind fun aq=>(some (aq.1,aq.2.1))))=some (r1,r2):=H
  have A4:=Aside0.mk A40
  clear A40
  replace H:=Option.bind_eq_some_iff.mp H
  obtain⟨⟨av,ap⟩,A50,H⟩:=H
  replace H:((whole_Sub.f k au ao av ap).bind fun aq=>(some (aq.1,aq.2.1)))=some (r1,r2):=H
  have A5:=Aside0.mk A50
  clear A50
  replace H:=Option.bind_eq_some_iff.mp H
  obtain⟨⟨aw,aF,aL⟩,A60,H⟩:=H
  replace H:(some (aw,aF))=some (r1,r2):=H
  have A6:=Aside0.mk A60
  clear A60
  simp only[Option.some.injEq,Prod.mk.injEq]at H
  obtain⟨rfl,rfl⟩:=H
  go_enter Tryz.func44,Tryz.ntmps44
  try go_wp2_with (first|(refine gd 1 rfl ?_;refine kbe 1 #[.int .i64 ac,.slice am af.length an] 28 ?_;intro ak hg w7 hbox hb;have aa:=Aside0.mk (hbox);have bi:=kbz hg HB;have aS:=kbz hg HB;replace HB:=kbs HB hb;clear hb hbox hg)|(refine gd 2 rfl ?_;refine kbe 2 #[.bool false,.slice none 0 0] 43 ?_;intro al hg w8 hbox hb;have ab:=Aside0.mk (hbox);have bj:=kbz hg HB;have aT:=kbz hg HB;replace HB:=kbs HB hb;have aG:=knl hg aa;have aH:=kng hg aa;replace aa:=kbb aa hb;clear hb hbox hg;have cf:=aG.out;have cg:=aH.out;have bl:w8.cell? ⟨ak,0,none⟩=some (.int .i64 ac):=(blk_cell aa.out 0).trans rfl;have bn:w8.cell? ⟨ak,1,none⟩=some (.slice am af.length an):=(blk_cell aa.out 1).trans rfl;have bo:=blk_frozen aa.out 0;have bp:=blk_frozen aa.out 1)|((with_reducible refine gate_callee (f:=88) rfl ?_);refine kgl (some 10) rfl rfl Tryz.func88 #[.slice am af.length an,.int .i64 (wrap64 (ac-1))] rfl ?_;(with_reducible refine(nat_Bit.calls _ _ af (wrap64 (ac-1)) true _ ?side1 ?side2 A2.out).mono ?_);(case side1=>repeat (first|exact(Kd.C_below aM.out HB.out)|(with_reducible refine Kd.C_alloc ?_ _)|(with_reducible refine Kd.C_drewN ?_ _)|(with_reducible refine Kd.C_drew ?_)));(case side2=>exact aN.out);rintro e w' ⟨rfl,⟨nd,rfl⟩⟩;refine⟨_,rfl,?_⟩;(try(rw[drewN_self w8];generalize hq_:World.drewN w8 _=w8;have n0_:Aside0 (w8.heap[ak]? = some (.cells #[.int .i64 ac,.slice am af.length an] 28 (0,0))):=⟨by rw[←hq_];exact(kbu aa.out)⟩;have n1_:Aside0 (w8.heap[al]? = some (.cells #[.bool false,.slice none 0 0] 43 (0,0))):=⟨by rw[←hq_];exact(kbu ab.out)⟩;have n2_:Aside0 (Below w.heap.size w w8):=⟨by rw[←hq_];exact(khu HB.out)⟩;clear aa ab HB hq_;have aa:=n0_;have ab:=n1_;have HB:=n2_;clear n0_ n1_ n2_))))
  replace aa:=Aside0.mk (blk_drew aa.out);replace ab:=Aside0.mk (blk_drew ab.out);replace HB:=Aside0.mk (below_drew1 HB.out)
  refine start_ (n:=12) (S:=fun w'=>w'.cell? ⟨ak,0,none⟩=some (.int .i64 ac)∧w'.cell? ⟨ak,1,none⟩=some (.slice am af.length an)) (ds:=[]) (bm_ 12 0) Z0 rfl rfl ⟨(blk_cell aa.out 0).trans rfl,(blk_cell aa.out 1).trans rfl⟩ (fun hHeld=>?_);refine with_tabW bits_s.tab3 bits_s.bits3 (fun HT_ HW_=>?_)
  generalize w8.drew=w11 at aa ab HB hHeld ⊢
  refine pu_ 2 17 ?_ (bm_ 12 4) rfl rfl (any_of HT_.out Z0) (fun _ _ _ h=>h) B0 ?_ ?_ ?_ ?_
  rotate_left
  ·intro w'
   go_simp
   with_reducible rfl
  rotate_left
  ·simp only[Act.put,kss,i64_w,i32_w]
   rfl
  refine tk_ 0 15 ?_ (bm_ 12 5) rfl rfl (take_ofW HT_.out HW_.out Z0) (fun _ _ _ h=>h) B0 ?_ hHeld ?_ ?_ ?_
  rotate_left
  ·rintro w' ⟨s0,s1⟩
   go_simp
   with_reducible rfl
  rotate_left
  ·simp only[Act.put,kss,i64_w,i32_w]
   rfl
  refine tk_ 3 18 ?_ (bm_ 12 13) rfl rfl (take_ofW HT_.out HW_.out Z0) (fun _ _ _ h=>h) B0 ?_ hHeld ?_ ?_ ?_
  rotate_left
  ·rintro w' ⟨s0,s1⟩
   go_simp
   with_reducible rfl
  rotate_left
  ·simp only[Act.put,kss,i64_w,i32_w]
   rfl
  refine join_ (σ:=Value×Value×Value×Nat) 2 (bm_ 12 1023) (fun s_=>[(16,.agg #[.bool au,s_.1]),(19,.agg #[.bool av,s_.2.1]),(20,.tuple #[.agg #[.bool aw,s_.2.2.1],.int .i64 aL]),(3,.pointer (some ⟨s_.2.2.2,0,none⟩)),(14,.tuple #[.agg #[.bool aw,s_.2.2.1],.int .i64 aL]),(21,.agg #[.bool aw,s_.2.2.1]),(22,.int .i64 aL)]) (fun s_ w'=>(w'.cell? ⟨ak,0,none⟩=some (.int .i64 ac)∧w'.cell? ⟨ak,1,none⟩=some (.slice am af.length an))∧(Kd.R (Kd.int .u64) 48 w' w.heap.size (fun k_=>some k_≠(s_.2.1:Value).ownBlock∧some k_≠(s_.2.2.1:Value).ownBlock) s_.1 ao)∧(Kd.R (Kd.int .u64) 48 w' w.heap.size (fun k_=>some k_≠(s_.1:Value).ownBlock∧some k_≠(s_.2.2.1:Value).ownBlock) s_.2.1 ap)∧(Kd.R (Kd.int .u64) 48 w' w.heap.size (fun k_=>some k_≠(s_.1:Value).ownBlock∧some k_≠(s_.2.1:Value).ownBlock) s_.2.2.1 aF)∧(w'.heap[ak]? = some (.cells #[.int .i64 ac,.slice am af.length an] 28 (0,0)))∧(w'.heap[al]? = some (.cells #[.bool false,.slice none 0 0] 43 (0,0)))∧(w'.heap[s_.2.2.2]? = some (.cells #[.bool false,.slice none 0 0] 43 (0,0)))∧(w.heap.size≤s_.2.2.2)∧(w.heap.size≤s_.2.2.2)∧(ak≠s_.2.2.2)∧(s_.2.2.2≠ak)∧(al≠s_.2.2.2)∧(s_.2.2.2≠al)∧(Below w.heap.size w w')) ?_ ?_
  rotate_left
  ·intro hCont
   refine two_ (i:=1) (j:=9) (Ni:=some 16) (Nj:=some 3) (bm_ 12 15) (bm_ 12 525) rfl rfl rfl rfl (two_of HT_.out Z0) X0 X0 (fun K hK=>?_) (fun K hK=>?_)
   ·skip
    refine kgo Tryz.func43 #[.agg #[.int .i64 ac,.slice am af.length an]] B0 rfl rfl ?_
    with_reducible refine(bits_u.calls k ac _ _ af au ao _ ?side1 ?side2 A4.out).mono ?_
    (case side1=>repeat (first|exact(Kd.C_below aM.out HB.out)|(with_reducible refine Kd.C_alloc ?_ _)|(with_reducible refine Kd.C_drewN ?_ _)|(with_reducible refine Kd.C_drew ?_)))
    (case side2=>exact aN.out)
    rintro e w12 ⟨aP,rfl,ho0,hb⟩
    refine⟨_,rfl,?_⟩
    have HO782:=Aside0.mk (Kd.R_lower ho0 (below_size (khu HB.out)));replace aa:=kbb aa hb;replace ab:=kbb ab hb;replace HB:=kbs HB hb
    (try clear hb);(try clear hb2);(try clear hk);(try clear hi);(try clear ho0)
    refine hK.out _ _ ⟨(blk_cell aa.out 0).trans rfl,(blk_cell aa.out 1).trans rfl⟩ (fun hHeld=>?_)
    clear hK K
    refine norm_ (a':=?_) ?_ ?_
    rotate_left
    ·show Act.put _ (some 16) _=_
     simp only[Act.put,kss,i64_w,i32_w]
     rfl
    refine two_ (i:=4) (j:=9) (Ni:=some 19) (Nj:=some 3) (bm_ 12 31) (bm_ 12 527) rfl rfl rfl rfl (two_of HT_.out Z0) X0 X0 (fun K hK=>?_) (fun K hK=>?_)
    ·skip
     refine kgo Tryz.func72 #[.int .i64 ac] B0 rfl rfl ?_
     with_reducible refine(bits_power.calls k ac av ap _ A5.out).mono ?_
     rintro e w13 ⟨aO,rfl,ho0,hb⟩
     refine⟨_,rfl,?_⟩
     have HO786:=Aside0.mk (Kd.R_lower (Kd.R_new' ho0 (Kd.R_lt (kru HO782.out))) (below_size (khu HB.out)));replace HO782:=Aside0.mk (Kd.R_elder' (kru HO782.out) (Kd.R_base ho0) hb);replace aa:=kbb aa hb;replace ab:=kbb ab hb;replace HB:=kbs HB hb
     (try clear hb);(try clear hb2);(try clear hk);(try clear hi);(try clear ho0)
     obtain⟨bb,bc,bd⟩:=Kd.R_slice HO782.out
     (first|subst bd|(injection bd with f1_ f2_ f3_;have f4_:=f1_.symm;have f5_:=f3_.symm;clear f1_ f2_ f3_;subst f4_;subst f5_))
     obtain⟨ay,az,aA⟩:=Kd.R_slice HO786.out
     (first|subst aA|(injection aA with f1_ f2_ f3_;have f4_:=f1_.symm;have f5_:=f3_.symm;clear f1_ f2_ f3_;subst f4_;subst f5_))
     refine hK.out _ _ ⟨(blk_cell aa.out 0).trans rfl,(blk_cell aa.out 1).trans rfl⟩ (fun hHeld=>?_)
     clear hK K
     refine norm_ (a':=?_) ?_ ?_
     rotate_left
     ·show Act.put _ (some 19) _=_
      simp only[Act.put,kss,i64_w,i32_w]
      rfl
     refine two_ (i:=5) (j:=9) (Ni:=some 20) (Nj:=some 3) (bm_ 12 63) (bm_ 12 543) rfl rfl rfl rfl (two_of HT_.out Z0) X0 X0 (fun K hK=>?_) (fun K hK=>?_)
     ·skip
      refine kgo Tryz.func89 #[.agg #[.bool au,.slice bb ao.length bc],.agg #[.bool av,.slice ay ap.length az]] B0 rfl rfl ?_
      with_reducible refine(whole_Sub.calls k au _ _ ao av _ _ ap aw aF aL _ ?side1 ?side2 ?side3 ?side4 A6.out).mono ?_
      (case side1=>repeat (first|exact(Kd.R_reads' HO782.out).2.2|(with_reducible refine Kd.C_alloc ?_ _)|(with_reducible refine Kd.C_drewN ?_ _)|(with_reducible refine Kd.C_drew ?_)))
      (case side2=>exact(Kd.R_reads' HO782.out).2.1)
      (case side3=>repeat (first|exact(Kd.R_reads' HO786.out).2.2|(with_reducible refine Kd.C_alloc ?_ _)|(with_reducible refine Kd.C_drewN ?_ _)|(with_reducible refine Kd.C_drew ?_)))
      (case side4=>exact(Kd.R_reads' HO786.out).2.1)
      rintro e w16 ⟨aB,rfl,ho0,hb⟩
      refine⟨_,rfl,?_⟩
      have HO790:=Aside0.mk (Kd.R_lower (Kd.R_new' (Kd.R_new' ho0 (Kd.R_lt (kru HO782.out))) (Kd.R_lt (kru HO786.out))) (below_size (khu HB.out)));replace HO782:=Aside0.mk (Kd.R_elder' (kru HO782.out) (Kd.R_base ho0) hb);replace HO786:=Aside0.mk (Kd.R_elder' (kru HO786.out) (Kd.R_base ho0) hb);replace aa:=kbb aa hb;replace ab:=kbb ab hb;replace HB:=kbs HB hb
      (try clear hb);(try clear hb2);(try clear hk);(try clear hi);(try clear ho0)
      refine hK.out _ _ ⟨(blk_cell aa.out 0).trans rfl,(blk_cell aa.out 1).trans rfl⟩ (fun hHeld=>?_)
      clear hK K
      refine norm_ (a':=?_) ?_ ?_
      rotate_left
      ·show Act.put _ (some 20) _=_
       simp only[Act.put,kss,i64_w,i32_w]
       rfl
      refine pu_ 6 14 ?_ (bm_ 12 127) rfl rfl (any_of HT_.out Z0) (fun _ _ _ h=>h) B0 ?_ ?_ ?_ ?_
      rotate_left
      ·intro w'
       go_simp
       with_reducible rfl
      rotate_left
      ·simp only[Act.put,kss,i64_w,i32_w]
       rfl
      refine pu_ 7 21 ?_ (bm_ 12 255) rfl rfl (any_of HT_.out Z0) (fun _ _ _ h=>h) B0 ?_ ?_ ?_ ?_
      rotate_left
      ·intro w'
       go_simp
       with_reducible rfl
      rotate_left
      ·simp only[Act.put,kss,i64_w,i32_w]
       rfl
      refine pu_ 8 22 ?_ (bm_ 12 511) rfl rfl (any_of HT_.out Z0) (fun _ _ _ h=>h) B0 ?_ ?_ ?_ ?_
      rotate_left
      ·intro w'
       go_simp
       with_reducible rfl
      rotate_left
      ·simp only[Act.put,kss,i64_w,i32_w]
       rfl
      refine one_ (i:=9) (N:=some 3) (bm_ 12 1023) rfl rfl (one_of HT_.out Z0) X0 (fun K hK=>?_)
      refine box_step ?hg (N:=3) ?hd (cs:=#[.bool false,.slice none 0 0]) (t:=43) ?hr ?_;(case hd=>rfl);(case hg=>rfl);(case hr=>first|(go_simp;done)|(go_simp;rfl))
      intro ag hg w17 hbox hb
      replace HO782:=krb HO782 hb;replace HO786:=krb HO786 hb;replace HO790:=krb HO790 hb;have ad:=Aside0.mk (hbox);have aE:=kbz hg HB;have ax:=kbz hg HB;replace HB:=kbs HB hb;have ae:=knl hg aa;have ai:=kng hg aa;replace aa:=kbb aa hb;have ah:=knl hg ab;have aj:=kng hg ab;replace ab:=kbb ab hb
      clear hb hbox hg
      refine hK.out _ _ ⟨(blk_cell aa.out 0).trans rfl,(blk_cell aa.out 1).trans rfl⟩ (fun hHeld=>?_)
      clear hK K
      refine norm_ (a':=?_) ?_ ?_
      rotate_left
      ·show Act.put _ (some 3) _=_
       simp only[Act.put,kss,i64_w,i32_w]
       rfl
      exact norm_ X4 (hCont (.slice bb ao.length bc,.slice ay ap.length az,aB,ag) _ ⟨hHeld,Z3,D2,F2,(kbu aa.out),(kbu ab.out),(kbu ad.out),aE.out,ax.out,ae.out,ai.out,ah.out,aj.out,(khu HB.out)⟩)
     skip
     refine box_step ?hg (N:=3) ?hd (cs:=#[.bool false,.slice none 0 0]) (t:=43) ?hr ?_;(case hd=>rfl);(case hg=>rfl);(case hr=>first|(go_simp;done)|(go_simp;rfl))
     intro ag hg w14 hbox hb
     replace HO782:=krb HO782 hb;replace HO786:=krb HO786 hb;have ad:=Aside0.mk (hbox);have aE:=kbz hg HB;have ax:=kbz hg HB;replace HB:=kbs HB hb;have ae:=knl hg aa;have ai:=kng hg aa;replace aa:=kbb aa hb;have ah:=knl hg ab;have aj:=kng hg ab;replace ab:=kbb ab hb
     clear hb hbox hg
     obtain⟨ay,az,aA⟩:=Kd.R_slice HO782.out
     (first|subst aA|(injection aA with f1_ f2_ f3_;have f4_:=f1_.symm;have f5_:=f3_.symm;clear f1_ f2_ f3_;subst f4_;subst f5_))
     obtain⟨aI,aJ,aK⟩:=Kd.R_slice HO786.out
     (first|subst aK|(injection aK with f1_ f2_ f3_;have f4_:=f1_.symm;have f5_:=f3_.symm;clear f1_ f2_ f3_;subst f4_;subst f5_))
     refine hK.out _ _ ⟨(blk_cell aa.out 0).trans rfl,(blk_cell aa.out 1).trans rfl⟩ (fun hHeld=>?_)
     clear hK K
     refine norm_ (a':=?_) ?_ ?_
     rotate_left
     ·show Act.put _ (some 3) _=_
      simp only[Act.put,kss,i64_w,i32_w]
      rfl
     refine one_ (i:=5) (N:=some 20) (bm_ 12 575) rfl rfl (one_of HT_.out Z0) X0 (fun K hK=>?_)
     refine kgo Tryz.func89 #[.agg #[.bool au,.slice ay ao.length az],.agg #[.bool av,.slice aI ap.length aJ]] B0 rfl rfl ?_
     with_reducible refine(whole_Sub.calls k au _ _ ao av _ _ ap aw aF aL _ ?side1 ?side2 ?side3 ?side4 A6.out).mono ?_
     (case side1=>repeat (first|exact(Kd.R_reads' HO782.out).2.2|(with_reducible refine Kd.C_alloc ?_ _)|(with_reducible refine Kd.C_drewN ?_ _)|(with_reducible refine Kd.C_drew ?_)))
     (case side2=>exact(Kd.R_reads' HO782.out).2.1)
     (case side3=>repeat (first|exact(Kd.R_reads' HO786.out).2.2|(with_reducible refine Kd.C_alloc ?_ _)|(with_reducible refine Kd.C_drewN ?_ _)|(with_reducible refine Kd.C_drew ?_)))
     (case side4=>exact(Kd.R_reads' HO786.out).2.1)
     rintro e w17 ⟨aB,rfl,ho0,hb⟩
     refine⟨_,rfl,?_⟩
     have HO790:=Aside0.mk (Kd.R_lower (Kd.R_new' (Kd.R_new' ho0 (Kd.R_lt (kru HO782.out))) (Kd.R_lt (kru HO786.out))) (below_size (khu HB.out)));replace HO782:=Aside0.mk (Kd.R_elder' (kru HO782.out) (Kd.R_base ho0) hb);replace HO786:=Aside0.mk (Kd.R_elder' (kru HO786.out) (Kd.R_base ho0) hb);replace aa:=kbb aa hb;replace ab:=kbb ab hb;replace ad:=kbb ad hb;replace HB:=kbs HB hb
     (try clear hb);(try clear hb2);(try clear hk);(try clear hi);(try clear ho0)
     refine hK.out _ _ ⟨(blk_cell aa.out 0).trans rfl,(blk_cell aa.out 1).trans rfl⟩ (fun hHeld=>?_)
     clear hK K
     refine norm_ (a':=?_) ?_ ?_
     rotate_left
     ·show Act.put _ (some 20) _=_
      simp only[Act.put,kss,i64_w,i32_w]
      rfl
     refine pu_ 6 14 ?_ (bm_ 12 639) rfl rfl (any_of HT_.out Z0) (fun _ _ _ h=>h) B0 ?_ ?_ ?_ ?_
     rotate_left
     ·intro w'
      go_simp
      with_reducible rfl
     rotate_left
     ·simp only[Act.put,kss,i64_w,i32_w]
      rfl
     refine pu_ 7 21 ?_ (bm_ 12 767) rfl rfl (any_of HT_.out Z0) (fun _ _ _ h=>h) B0 ?_ ?_ ?_ ?_
     rotate_left
     ·intro w'
      go_simp
      with_reducible rfl
     rotate_left
     ·simp only[Act.put,kss,i64_w,i32_w]
      rfl
     refine pu_ 8 22 ?_ (bm_ 12 1023) rfl rfl (any_of HT_.out Z0) (fun _ _ _ h=>h) B0 ?_ ?_ ?_ ?_
     rotate_left
     ·intro w'
      go_simp
      with_reducible rfl
     rotate_left
     ·simp only[Act.put,kss,i64_w,i32_w]
      rfl
     exact norm_ X4 (hCont (.slice ay ao.length az,.slice aI ap.length aJ,aB,ag) _ ⟨hHeld,Z3,D2,F2,(kbu aa.out),(kbu ab.out),(kbu ad.out),aE.out,ax.out,ae.out,ai.out,ah.out,aj.out,(khu HB.out)⟩)
    skip
    refine box_step ?hg (N:=3) ?hd (cs:=#[.bool false,.slice none 0 0]) (t:=43) ?hr ?_;(case hd=>rfl);(case hg=>rfl);(case hr=>first|(go_simp;done)|(go_simp;rfl))
    intro ag hg w13 hbox hb
    replace HO782:=krb HO782 hb;have ad:=Aside0.mk (hbox);have aE:=kbz hg HB;have ax:=kbz hg HB;replace HB:=kbs HB hb;have ae:=knl hg aa;have ai:=kng hg aa;replace aa:=kbb aa hb;have ah:=knl hg ab;have aj:=kng hg ab;replace ab:=kbb ab hb
    clear hb hbox hg
    refine hK.out _ _ ⟨(blk_cell aa.out 0).trans rfl,(blk_cell aa.out 1).trans rfl⟩ (fun hHeld=>?_)
    clear hK K
    refine norm_ (a':=?_) ?_ ?_
    rotate_left
    ·show Act.put _ (some 3) _=_
     simp only[Act.put,kss,i64_w,i32_w]
     rfl
    refine one_ (i:=4) (N:=some 19) (bm_ 12 543) rfl rfl (one_of HT_.out Z0) X0 (fun K hK=>?_)
    refine kgo Tryz.func72 #[.int .i64 ac] B0 rfl rfl ?_
    with_reducible refine(bits_power.calls k ac av ap _ A5.out).mono ?_
    rintro e w14 ⟨aO,rfl,ho0,hb⟩
    refine⟨_,rfl,?_⟩
    have HO786:=Aside0.mk (Kd.R_lower (Kd.R_new' ho0 (Kd.R_lt (kru HO782.out))) (below_size (khu HB.out)));replace HO782:=Aside0.mk (Kd.R_elder' (kru HO782.out) (Kd.R_base ho0) hb);replace aa:=kbb aa hb;replace ab:=kbb ab hb;replace ad:=kbb ad hb;replace HB:=kbs HB hb
    (try clear hb);(try clear hb2);(try clear hk);(try clear hi);(try clear ho0)
    obtain⟨ay,az,aA⟩:=Kd.R_slice HO782.out
    (first|subst aA|(injection aA with f1_ f2_ f3_;have f4_:=f1_.symm;have f5_:=f3_.symm;clear f1_ f2_ f3_;subst f4_;subst f5_))
    obtain⟨aI,aJ,aK⟩:=Kd.R_slice HO786.out
    (first|subst aK|(injection aK with f1_ f2_ f3_;have f4_:=f1_.symm;have f5_:=f3_.symm;clear f1_ f2_ f3_;subst f4_;subst f5_))
    refine hK.out _ _ ⟨(blk_cell aa.out 0).trans rfl,(blk_cell aa.out 1).trans rfl⟩ (fun hHeld=>?_)
    clear hK K
    refine norm_ (a':=?_) ?_ ?_
    rotate_left
    ·show Act.put _ (some 19) _=_
     simp only[Act.put,kss,i64_w,i32_w]
     rfl
    refine one_ (i:=5) (N:=some 20) (bm_ 12 575) rfl rfl (one_of HT_.out Z0) X0 (fun K hK=>?_)
    refine kgo Tryz.func89 #[.agg #[.bool au,.slice ay ao.length az],.agg #[.bool av,.slice aI ap.length aJ]] B0 rfl rfl ?_
    with_reducible refine(whole_Sub.calls k au _ _ ao av _ _ ap aw aF aL _ ?side1 ?side2 ?side3 ?side4 A6.out).mono ?_
    (case side1=>repeat (first|exact(Kd.R_reads' HO782.out).2.2|(with_reducible refine Kd.C_alloc ?_ _)|(with_reducible refine Kd.C_drewN ?_ _)|(with_reducible refine Kd.C_drew ?_)))
    (case side2=>exact(Kd.R_reads' HO782.out).2.1)
    (case side3=>repeat (first|exact(Kd.R_reads' HO786.out).2.2|(with_reducible refine Kd.C_alloc ?_ _)|(with_reducible refine Kd.C_drewN ?_ _)|(with_reducible refine Kd.C_drew ?_)))
    (case side4=>exact(Kd.R_reads' HO786.out).2.1)
    rintro e w17 ⟨aB,rfl,ho0,hb⟩
    refine⟨_,rfl,?_⟩
    have HO790:=Aside0.mk (Kd.R_lower (Kd.R_new' (Kd.R_new' ho0 (Kd.R_lt (kru HO782.out))) (Kd.R_lt (kru HO786.out))) (below_size (khu HB.out)));replace HO782:=Aside0.mk (Kd.R_elder' (kru HO782.out) (Kd.R_base ho0) hb);replace HO786:=Aside0.mk (Kd.R_elder' (kru HO786.out) (Kd.R_base ho0) hb);replace aa:=kbb aa hb;replace ab:=kbb ab hb;replace ad:=kbb ad hb;replace HB:=kbs HB hb
    (try clear hb);(try clear hb2);(try clear hk);(try clear hi);(try clear ho0)
    refine hK.out _ _ ⟨(blk_cell aa.out 0).trans rfl,(blk_cell aa.out 1).trans rfl⟩ (fun hHeld=>?_)
    clear hK K
    refine norm_ (a':=?_) ?_ ?_
    rotate_left
    ·show Act.put _ (some 20) _=_
     simp only[Act.put,kss,i64_w,i32_w]
     rfl
    refine pu_ 6 14 ?_ (bm_ 12 639) rfl rfl (any_of HT_.out Z0) (fun _ _ _ h=>h) B0 ?_ ?_ ?_ ?_
    rotate_left
    ·intro w'
     go_simp
     with_reducible rfl
    rotate_left
    ·simp only[Act.put,kss,i64_w,i32_w]
     rfl
    refine pu_ 7 21 ?_ (bm_ 12 767) rfl rfl (any_of HT_.out Z0) (fun _ _ _ h=>h) B0 ?_ ?_ ?_ ?_
    rotate_left
    ·intro w'
     go_simp
     with_reducible rfl
    rotate_left
    ·simp only[Act.put,kss,i64_w,i32_w]
     rfl
    refine pu_ 8 22 ?_ (bm_ 12 1023) rfl rfl (any_of HT_.out Z0) (fun _ _ _ h=>h) B0 ?_ ?_ ?_ ?_
    rotate_left
    ·intro w'
     go_simp
     with_reducible rfl
    rotate_left
    ·simp only[Act.put,kss,i64_w,i32_w]
     rfl
    exact norm_ X4 (hCont (.slice ay ao.length az,.slice aI ap.length aJ,aB,ag) _ ⟨hHeld,Z3,D2,F2,(kbu aa.out),(kbu ab.out),(kbu ad.out),aE.out,ax.out,ae.out,ai.out,ah.out,aj.out,(khu HB.out)⟩)
   skip
   refine box_step ?hg (N:=3) ?hd (cs:=#[.bool false,.slice none 0 0]) (t:=43) ?hr ?_;(case hd=>rfl);(case hg=>rfl);(case hr=>first|(go_simp;done)|(go_simp;rfl))
   intro ag hg w12 hbox hb
   have ad:=Aside0.mk (hbox);have aE:=kbz hg HB;have ax:=kbz hg HB;replace HB:=kbs HB hb;have ae:=knl hg aa;have ai:=kng hg aa;replace aa:=kbb aa hb;have ah:=knl hg ab;have aj:=kng hg ab;replace ab:=kbb ab hb
   clear hb hbox hg
   refine hK.out _ _ ⟨(blk_cell aa.out 0).trans rfl,(blk_cell aa.out 1).trans rfl⟩ (fun hHeld=>?_)
   clear hK K
   refine norm_ (a':=?_) ?_ ?_
   rotate_left
   ·show Act.put _ (some 3) _=_
    simp only[Act.put,kss,i64_w,i32_w]
    rfl
   refine one_ (i:=1) (N:=some 16) (bm_ 12 527) rfl rfl (one_of HT_.out Z0) X0 (fun K hK=>?_)
   refine kgo Tryz.func43 #[.agg #[.int .i64 ac,.slice am af.length an]] B0 rfl rfl ?_
   with_reducible refine(bits_u.calls k ac _ _ af au ao _ ?side1 ?side2 A4.out).mono ?_
   (case side1=>repeat (first|exact(Kd.C_below aM.out HB.out)|(with_reducible refine Kd.C_alloc ?_ _)|(with_reducible refine Kd.C_drewN ?_ _)|(with_reducible refine Kd.C_drew ?_)))
   (case side2=>exact aN.out)
   rintro e w13 ⟨aP,rfl,ho0,hb⟩
   refine⟨_,rfl,?_⟩
   have HO782:=Aside0.mk (Kd.R_lower ho0 (below_size (khu HB.out)));replace aa:=kbb aa hb;replace ab:=kbb ab hb;replace ad:=kbb ad hb;replace HB:=kbs HB hb
   (try clear hb);(try clear hb2);(try clear hk);(try clear hi);(try clear ho0)
   refine hK.out _ _ ⟨(blk_cell aa.out 0).trans rfl,(blk_cell aa.out 1).trans rfl⟩ (fun hHeld=>?_)
   clear hK K
   refine norm_ (a':=?_) ?_ ?_
   rotate_left
   ·show Act.put _ (some 16) _=_
    simp only[Act.put,kss,i64_w,i32_w]
    rfl
   refine one_ (i:=4) (N:=some 19) (bm_ 12 543) rfl rfl (one_of HT_.out Z0) X0 (fun K hK=>?_)
   refine kgo Tryz.func72 #[.int .i64 ac] B0 rfl rfl ?_
   with_reducible refine(bits_power.calls k ac av ap _ A5.out).mono ?_
   rintro e w14 ⟨aO,rfl,ho0,hb⟩
   refine⟨_,rfl,?_⟩
   have HO786:=Aside0.mk (Kd.R_lower (Kd.R_new' ho0 (Kd.R_lt (kru HO782.out))) (below_size (khu HB.out)));replace HO782:=Aside0.mk (Kd.R_elder' (kru HO782.out) (Kd.R_base ho0) hb);replace aa:=kbb aa hb;replace ab:=kbb ab hb;replace ad:=kbb ad hb;replace HB:=kbs HB hb
   (try clear hb);(try clear hb2);(try clear hk);(try clear hi);(try clear ho0)
   obtain⟨ay,az,aA⟩:=Kd.R_slice HO782.out
   (first|subst aA|(injection aA with f1_ f2_ f3_;have f4_:=f1_.symm;have f5_:=f3_.symm;clear f1_ f2_ f3_;subst f4_;subst f5_))
   obtain⟨aI,aJ,aK⟩:=Kd.R_slice HO786.out
   (first|subst aK|(injection aK with f1_ f2_ f3_;have f4_:=f1_.symm;have f5_:=f3_.symm;clear f1_ f2_ f3_;subst f4_;subst f5_))
   refine hK.out _ _ ⟨(blk_cell aa.out 0).trans rfl,(blk_cell aa.out 1).trans rfl⟩ (fun hHeld=>?_)
   clear hK K
   refine norm_ (a':=?_) ?_ ?_
   rotate_left
   ·show Act.put _ (some 19) _=_
    simp only[Act.put,kss,i64_w,i32_w]
    rfl
   refine one_ (i:=5) (N:=some 20) (bm_ 12 575) rfl rfl (one_of HT_.out Z0) X0 (fun K hK=>?_)
   refine kgo Tryz.func89 #[.agg #[.bool au,.slice ay ao.length az],.agg #[.bool av,.slice aI ap.length aJ]] B0 rfl rfl ?_
   with_reducible refine(whole_Sub.calls k au _ _ ao av _ _ ap aw aF aL _ ?side1 ?side2 ?side3 ?side4 A6.out).mono ?_
   (case side1=>repeat (first|exact(Kd.R_reads' HO782.out).2.2|(with_reducible refine Kd.C_alloc ?_ _)|(with_reducible refine Kd.C_drewN ?_ _)|(with_reducible refine Kd.C_drew ?_)))
   (case side2=>exact(Kd.R_reads' HO782.out).2.1)
   (case side3=>repeat (first|exact(Kd.R_reads' HO786.out).2.2|(with_reducible refine Kd.C_alloc ?_ _)|(with_reducible refine Kd.C_drewN ?_ _)|(with_reducible refine Kd.C_drew ?_)))
   (case side4=>exact(Kd.R_reads' HO786.out).2.1)
   rintro e w17 ⟨aB,rfl,ho0,hb⟩
   refine⟨_,rfl,?_⟩
   have HO790:=Aside0.mk (Kd.R_lower (Kd.R_new' (Kd.R_new' ho0 (Kd.R_lt (kru HO782.out))) (Kd.R_lt (kru HO786.out))) (below_size (khu HB.out)));replace HO782:=Aside0.mk (Kd.R_elder' (kru HO782.out) (Kd.R_base ho0) hb);replace HO786:=Aside0.mk (Kd.R_elder' (kru HO786.out) (Kd.R_base ho0) hb);replace aa:=kbb aa hb;replace ab:=kbb ab hb;replace ad:=kbb ad hb;replace HB:=kbs HB hb
   (try clear hb);(try clear hb2);(try clear hk);(try clear hi);(try clear ho0)
   refine hK.out _ _ ⟨(blk_cell aa.out 0).trans rfl,(blk_cell aa.out 1).trans rfl⟩ (fun hHeld=>?_)
   clear hK K
   refine norm_ (a':=?_) ?_ ?_
   rotate_left
   ·show Act.put _ (some 20) _=_
    simp only[Act.put,kss,i64_w,i32_w]
    rfl
   refine pu_ 6 14 ?_ (bm_ 12 639) rfl rfl (any_of HT_.out Z0) (fun _ _ _ h=>h) B0 ?_ ?_ ?_ ?_
   rotate_left
   ·intro w'
    go_simp
    with_reducible rfl
   rotate_left
   ·simp only[Act.put,kss,i64_w,i32_w]
    rfl
   refine pu_ 7 21 ?_ (bm_ 12 767) rfl rfl (any_of HT_.out Z0) (fun _ _ _ h=>h) B0 ?_ ?_ ?_ ?_
   rotate_left
   ·intro w'
    go_simp
    with_reducible rfl
   rotate_left
   ·simp only[Act.put,kss,i64_w,i32_w]
    rfl
   refine pu_ 8 22 ?_ (bm_ 12 1023) rfl rfl (any_of HT_.out Z0) (fun _ _ _ h=>h) B0 ?_ ?_ ?_ ?_
   rotate_left
   ·intro w'
    go_simp
    with_reducible rfl
   rotate_left
   ·simp only[Act.put,kss,i64_w,i32_w]
    rfl
   exact norm_ X4 (hCont (.slice ay ao.length az,.slice aI ap.length aJ,aB,ag) _ ⟨hHeld,Z3,D2,F2,(kbu aa.out),(kbu ab.out),(kbu ad.out),aE.out,ax.out,ae.out,ai.out,ah.out,aj.out,(khu HB.out)⟩)
  rintro⟨aP,aO,aB,ag⟩ w18 ⟨hS_,h0_,h1_,h2_,h3_,h4_,h5_,h6_,h7_,h8_,h9_,h10_,h11_,h12_⟩
  have n0_:Aside0 (Kd.R (Kd.int .u64) 48 w18 w.heap.size (fun k_=>some k_≠(aO:Value).ownBlock∧some k_≠(aB:Value).ownBlock) aP ao):=⟨h0_⟩
  have n1_:Aside0 (Kd.R (Kd.int .u64) 48 w18 w.heap.size (fun k_=>some k_≠(aP:Value).ownBlock∧some k_≠(aB:Value).ownBlock) aO ap):=⟨h1_⟩
  have n2_:Aside0 (Kd.R (Kd.int .u64) 48 w18 w.heap.size (fun k_=>some k_≠(aP:Value).ownBlock∧some k_≠(aO:Value).ownBlock) aB aF):=⟨h2_⟩
  have n3_:Aside0 (w18.heap[ak]? = some (.cells #[.int .i64 ac,.slice am af.length an] 28 (0,0))):=⟨h3_⟩
  have n4_:Aside0 (w18.heap[al]? = some (.cells #[.bool false,.slice none 0 0] 43 (0,0))):=⟨h4_⟩
  have n5_:Aside0 (w18.heap[ag]? = some (.cells #[.bool false,.slice none 0 0] 43 (0,0))):=⟨h5_⟩
  have n6_:Aside0 (w.heap.size≤ag):=⟨h6_⟩
  have n7_:Aside0 (w.heap.size≤ag):=⟨h7_⟩
  have n8_:Aside0 (ak≠ag):=⟨h8_⟩
  have n9_:Aside0 (ag≠ak):=⟨h9_⟩
  have n10_:Aside0 (al≠ag):=⟨h10_⟩
  have n11_:Aside0 (ag≠al):=⟨h11_⟩
  have n12_:Aside0 (Below w.heap.size w w18):=⟨h12_⟩
  clear aa
  clear ab
  clear HB
  clear h0_ h1_ h2_ h3_ h4_ h5_ h6_ h7_ h8_ h9_ h10_ h11_ h12_
  have HO782:=n0_
  have HO786:=n1_
  have HO790:=n2_
  have aa:=n3_
  have ab:=n4_
  have ad:=n5_
  have aE:=n6_
  have ax:=n7_
  have ae:=n8_
  have ai:=n9_
  have ah:=n10_
  have aj:=n11_
  have HB:=n12_
  clear n0_ n1_ n2_ n3_ n4_ n5_ n6_ n7_ n8_ n9_ n10_ n11_ n12_
  have hHeld:w18.cell? ⟨ak,0,none⟩=some (.int .i64 ac)∧w18.cell? ⟨ak,1,none⟩=some (.slice am af.length an):=hS_
  obtain⟨aV,aW,be⟩:=Kd.R_slice HO790.out
  (first|subst be|(injection be with f1_ f2_ f3_;have f4_:=f1_.symm;have f5_:=f3_.symm;clear f1_ f2_ f3_;subst f4_;subst f5_))
  refine norm_ (a':=?_) ?_ ?_
  rotate_left
  ·simp only[putAll,Act.put,kss]
   rfl
  refine one_ (i:=10) (N:=none) (bm_ 12 2047) rfl rfl (one_of HT_.out Z0) X0 (fun K hK=>?_)
  have ch:w18.cell? ⟨ag,0,none⟩=some (.bool false):=(blk_cell ad.out 0).trans rfl
  have bR:=blk_frozen ad.out 0
  have bq:=ae.out
  have br:=ah.out
  have bu:=ai.out
  have bv:=aj.out
  have ci:w18.cell? ⟨ag,1,none⟩=some (.slice none 0 0):=(blk_cell ad.out 1).trans rfl
  have bS:=blk_frozen ad.out 1
  have bw:=ae.out
  have bx:=ah.out
  have bz:=ai.out
  have bA:=aj.out
  refine skip_ (w1:=?_) B0 rfl ?_ ?_
  rotate_left
  ·go_simp
   rfl
  refine hK.out _ _ ⟨((cell_far (p:=⟨ag,_,none⟩) ae.out _).trans (((cell_far (p:=⟨ag,_,none⟩) ae.out _).trans (hHeld.1)))),((cell_far (p:=⟨ag,_,none⟩) ae.out _).trans (((cell_far (p:=⟨ag,_,none⟩) ae.out _).trans (hHeld.2))))⟩ (fun hHeld=>?_)
  clear hK K
  refine pu_ 11 4 ?_ (bm_ 12 4095) rfl rfl (any_of HT_.out Z0) (fun _ _ _ h=>h) B0 ?_ ?_ ?_ ?_
  rotate_left
  ·intro w'
   go_simp
   with_reducible rfl
  rotate_left
  ·simp only[Act.put,kss,i64_w,i32_w]
   rfl
  refine done_ (done_of HT_.out Z0) ?_
  have bT:=ai.out
  have bU:=ae.out
  have bV:=aj.out
  have bW:=ah.out
  have bB:w18.cell? ⟨ag,0,none⟩=some (.bool false):=(blk_cell ad.out 0).trans rfl
  have bC:w18.cell? ⟨ag,1,none⟩=some (.slice none 0 0):=(blk_cell ad.out 1).trans rfl
  have bD:=blk_frozen ad.out 0
  have bE:=blk_frozen ad.out 1
  have bF:w18.cell? ⟨al,0,none⟩=some (.bool false):=(blk_cell ab.out 0).trans rfl
  have bG:w18.cell? ⟨al,1,none⟩=some (.slice none 0 0):=(blk_cell ab.out 1).trans rfl
  have bH:=blk_frozen ab.out 0
  have bI:=blk_frozen ab.out 1
  try go_wp2
  refine bodyPost_ret (results_cell_row rfl _ _ al 43 #[.bool aw,.slice aV aF.length aW] (0,0) _ rfl (kpu #[.bool aw,.slice none 0 0] 1 (kpu #[.bool false,.slice none 0 0] 0 (kfa ah (kfa ah (kbu ab.out))))) Tryz.underlying43 rfl Z0) rfl ?_
  exact⟨_,Z1,by(with_reducible repeat (first|apply Kd.R_alloc|apply Kd.R_drewN|apply Kd.R_drew));exact Kd.R_mono (Kd.R_far (p:=⟨al,1,none⟩) (Kd.R_far (p:=⟨al,0,none⟩) (Kd.R_far (p:=⟨ag,1,none⟩) (Kd.R_far (p:=⟨ag,0,none⟩) (Kd.R_types (Kd.R_types HO790.out ad.out X0) ab.out X0) (fun _ hk=>hk.1.2) (.bool aw)) (fun _ hk=>hk.1.2) (.slice aV aF.length aW)) (fun _ hk=>hk.2) (.bool aw)) (fun _ hk=>hk.2) (.slice aV aF.length aW)) (fun _ hk=>trivial),by repeat (first|(with_reducible first|exact HB.out|apply below_alloc|apply pw_below_drewN|apply below_drew1|refine below_set ?_ aS.out|refine below_set ?_ aT.out|refine below_set ?_ ax.out)|exact HB.out)⟩
 replace c3:=Bool.eq_false_iff.mpr c3
 subst c3
 have H1:((bits_u.f k ac af).bind fun aD=>(some (aD.1,aD.2)))=some (r1,r2):=by rw[if_neg (show ¬(false=true) by decide)]at H;exact H
 clear H
 have H:=H1
 clear H1
 replace H:=Option.bind_eq_some_iff.mp H
 obtain⟨⟨aQ,aU⟩,bf,H⟩:=H
 replace H:(some (aQ,aU))=some (r1,r2):=H
 have A26:=Aside0.mk bf
 clear bf
 simp only[Option.some.injEq,Prod.mk.injEq]at H
 obtain⟨rfl,rfl⟩:=H
 go_enter Tryz.func44,Tryz.ntmps44
 go_wp2_with (first|(refine gd 1 rfl ?_;refine kbe 1 #[.int .i64 ac,.slice am af.length an] 28 ?_;intro ak hg w27 hbox hb;have aa:=Aside0.mk (hbox);have bi:=kbz hg HB;have aS:=kbz hg HB;replace HB:=kbs HB hb;clear hb hbox hg)|(refine gd 2 rfl ?_;refine kbe 2 #[.bool false,.slice none 0 0] 43 ?_;intro al hg w28 hbox hb;have ab:=Aside0.mk (hbox);have bj:=kbz hg HB;have aT:=kbz hg HB;replace HB:=kbs HB hb;have aG:=knl hg aa;have aH:=kng hg aa;replace aa:=kbb aa hb;clear hb hbox hg;have bX:=aG.out;have bY:=aH.out;have bJ:w28.cell? ⟨ak,0,none⟩=some (.int .i64 ac):=(blk_cell aa.out 0).trans rfl;have bK:w28.cell? ⟨ak,1,none⟩=some (.slice am af.length an):=(blk_cell aa.out 1).trans rfl;have bL:=blk_frozen aa.out 0;have bM:=blk_frozen aa.out 1)|((with_reducible refine gate_callee (f:=88) rfl ?_);refine kgl (some 10) rfl rfl Tryz.func88 #[.slice am af.length an,.int .i64 (wrap64 (ac-1))] rfl ?_;(with_reducible refine(nat_Bit.calls _ _ af (wrap64 (ac-1)) false _ ?side1 ?side2 A2.out).mono ?_);(case side1=>repeat (first|exact(Kd.C_below aM.out HB.out)|(with_reducible refine Kd.C_alloc ?_ _)|(with_reducible refine Kd.C_drewN ?_ _)|(with_reducible refine Kd.C_drew ?_)));(case side2=>exact aN.out);rintro e w' ⟨rfl,⟨nd,rfl⟩⟩;refine⟨_,rfl,?_⟩;(try(rw[drewN_self w28];generalize hq_:World.drewN w28 _=w28;have n0_:Aside0 (w28.heap[ak]? = some (.cells #[.int .i64 ac,.slice am af.length an] 28 (0,0))):=⟨by rw[←hq_];exact(kbu aa.out)⟩;have n1_:Aside0 (w28.heap[al]? = some (.cells #[.bool false,.slice none 0 0] 43 (0,0))):=⟨by rw[←hq_];exact(kbu ab.out)⟩;have n2_:Aside0 (Below w.heap.size w w28):=⟨by rw[←hq_];exact(khu HB.out)⟩;clear aa ab HB hq_;have aa:=n0_;have ab:=n1_;have HB:=n2_;clear n0_ n1_ n2_));have bZ:=(blk_cell aa.out 0).trans (show _=some (Value.int .i64 ac) from rfl);have ca:=(blk_cell aa.out 1).trans (show _=some (Value.slice am af.length an) from rfl);have cb:=blk_frozen aa.out 0;have cc:=blk_frozen aa.out 1)|((with_reducible refine gate_callee (f:=43) rfl ?_);refine kgl (some 13) rfl rfl Tryz.func43 #[.agg #[.int .i64 ac,.slice am af.length an]] rfl ?_;(with_reducible refine(bits_u.calls k ac _ _ af aQ aU _ ?side1 ?side2 A26.out).mono ?_);(case side1=>repeat (first|exact(Kd.C_below aM.out HB.out)|(with_reducible refine Kd.C_alloc ?_ _)|(with_reducible refine Kd.C_drewN ?_ _)|(with_reducible refine Kd.C_drew ?_)));(case side2=>exact aN.out);rintro e w31 ⟨cj,rfl,ho0,hb⟩;refine⟨_,rfl,?_⟩;have aZ:=Aside0.mk (Kd.R_lower ho0 (below_size (khu HB.out)));replace aa:=kbb aa hb;replace ab:=kbb ab hb;replace HB:=kbs HB hb;(try clear hb);(try clear hb2);(try clear hk);(try clear hi);(try clear ho0);have bN:w31.cell? ⟨al,0,none⟩=some (.bool false):=(blk_cell ab.out 0).trans rfl;have bO:w31.cell? ⟨al,1,none⟩=some (.slice none 0 0):=(blk_cell ab.out 1).trans rfl;have bP:=blk_frozen ab.out 0;have bQ:=blk_frozen ab.out 1;obtain⟨bg,bh,bk⟩:=Kd.R_slice aZ.out;subst bk))
 refine bodyPost_ret (results_cell_row rfl _ _ al 43 #[.bool aQ,.slice bg aU.length bh] (0,0) _ rfl (kpu #[.bool aQ,.slice none 0 0] 1 (kpu #[.bool false,.slice none 0 0] 0 (kbu ab.out))) Tryz.underlying43 rfl Z0) rfl ?_
 exact⟨_,Z1,by(with_reducible repeat (first|apply Kd.R_alloc|apply Kd.R_drewN|apply Kd.R_drew));exact Kd.R_mono (Kd.R_far (p:=⟨al,1,none⟩) (Kd.R_far (p:=⟨al,0,none⟩) (Kd.R_types aZ.out ab.out X0) (fun _ hk=>hk.2) (.bool aQ)) (fun _ hk=>hk.2) (.slice bg aU.length bh)) (fun _ hk=>trivial),by repeat (first|(with_reducible first|exact HB.out|apply below_alloc|apply pw_below_drewN|apply below_drew1|refine below_set ?_ aS.out|refine below_set ?_ aT.out)|exact HB.out)⟩
def nat_Len.f (k:Nat) (l0:List Int):Option (Int):=(nat_trim.f k l0).bind fun t1104=>(if(t1104.length:Int)=0 then(some 0) else(if 0≤(wrap64 ((t1104.length:Int)-1)) then(if(wrap64 ((t1104.length:Int)-1))<(t1104.length:Int) then((bits_Len64.f (rd t1104 (wrap64 ((t1104.length:Int)-1)))).bind fun t1108=>(some (wrap64 ((wrap64 (64*(wrap64 ((t1104.length:Int)-1))))+t1108)))) else(none)) else(none)))
theorem nat_Len.mono:∀a0 k,LeO (nat_Len.f k a0) (nat_Len.f (k+1) a0):=by
 intro a0 k
 unfold nat_Len.f
 repeat' first
   | (with_reducible exact nat_trim.mono _ _)
   | (with_reducible exact LeO.refl _)
   | (with_reducible exact LeO.none _)
   | (with_reducible refine LeO.ite ?_ ?_)
   | (with_reducible refine LeO.bind ?_ (fun _=>?_))
   | exact nat_trim.mono _ _
   | exact LeO.none _
   | refine LeO.ite ?_ ?_
   | refine LeO.bind ?_ (fun _=>?_)
theorem nat_Len.calls (k:Nat) (A0:Option Addr) (c0:Nat) (l0:List Int) (r:Int) (w:World) (hr0:Kd.C (Kd.int .u64) w A0 l0.length l0) (hc0:l0.length≤c0) (h:nat_Len.f k l0=some r) :
  Calls Tryz.prog 53 #[.slice A0 l0.length c0] w fun e w'=>e=.returned (.int .i64 r)∧Below w.heap.size w w':=by
 have HR0:=Aside0.mk hr0
 have HC0:=Aside0.mk hc0
 clear hr0 hc0
 have HB:=Aside0.mk (Below.refl w.heap.size w)
 have H:((nat_trim.f k l0).bind fun aa=>(if(aa.length:Int)=0 then(some 0) else(if 0≤(wrap64 ((aa.length:Int)-1)) then(if(wrap64 ((aa.length:Int)-1))<(aa.length:Int) then((bits_Len64.f (rd aa (wrap64 ((aa.length:Int)-1)))).bind fun ab=>(some (wrap64 ((wrap64 (64*(wrap64 ((aa.length:Int)-1))))+ab)))) else(none)) else(none))))=some r:=h
 clear h
 replace H:=Option.bind_eq_some_iff.mp H
 obtain⟨aa,A20,H⟩:=H
 replace H:(if(aa.length:Int)=0 then(some 0) else(if 0≤(wrap64 ((aa.length:Int)-1)) then(if(wrap64 ((aa.length:Int)-1))<(aa.length:Int) then((bits_Len64.f (rd aa (wrap64 ((aa.length:Int)-1)))).bind fun ab=>(some (wrap64 ((wrap64 (64*(wrap64 ((aa.length:Int)-1))))+ab)))) else(none)) else(none)))=some r:=H
 have A2:=Aside0.mk A20
 clear A20
 by_cases c3:(aa.length:Int)=0
 ·rw[if_pos c3]at H
  have ah:((aa.length:Int)==0)=true:=beq_iff_eq.mpr c3
  have ai:((aa.length:Int) != 0)=false:=bne_eq_false_iff_eq.mpr c3
  clear c3
  obtain rfl:=Option.some.inj H
  go_enter Tryz.func53,Tryz.ntmps53
  go_wp2_with (first|((with_reducible refine gate_callee (f:=96) rfl ?_);refine kgl (some 4) rfl rfl Tryz.func96 #[.slice A0 l0.length c0] rfl ?_;(with_reducible refine(nat_trim.calls k (fun k_=>k_<w.heap.size) _ _ l0 aa _ ?side1 A2.out).mono ?_);(case side1=>exact Kd.V_mk HC0.out (Kd.F_below (Kd.C_F (Kd.heap_int .u64) HR0.out) (khu HB.out)));rintro e w4 ⟨af,rfl,ho0,hb⟩;refine⟨_,rfl,?_⟩;have HO1106:=Aside0.mk (Kd.V_lower (Kd.V_mono (ok':=fun k_=>True) ho0 (fun k_ hk_=>trivial)) (below_size (khu HB.out)));replace HB:=kbs HB hb;(try clear hb);(try clear hb2);(try clear hk);(try clear hi);(try clear ho0);obtain⟨Ao5,co5,eo5⟩:=Kd.V_slice HO1106.out;subst eo5))
  go_ret
  exact⟨Z1,khu HB.out⟩
 rw[if_neg c3]at H
 have ah:((aa.length:Int)==0)=false:=beq_eq_false_iff_ne.mpr c3
 have ai:((aa.length:Int) != 0)=true:=bne_iff_ne.mpr c3
 have an:¬(aa=[]):=fun h_=>c3 (by rw[h_];rfl)
 obtain⟨ji6,ac⟩:∃j_:Int,(wrap64 ((aa.length:Int)-1))=j_:=⟨_,rfl⟩
 replace H:(if 0≤(ji6) then(if(ji6)<(aa.length:Int) then((bits_Len64.f (rd aa (ji6))).bind fun ab=>(some (wrap64 ((wrap64 (64*(ji6)))+ab)))) else(none)) else(none))=some r:=by first|(rw[ac]at H;exact H)|(simp only[ac]at H ⊢;exact H)
 (try rw[ac]at A2)
 have am:(IntKind.i64.wrap ((aa.length:Int)-1))=ji6:=(i64_w _).trans ac
 by_cases c7:0≤(ji6)
 ·rw[if_pos c7]at H
  have ao:decide (0≤(ji6))=true:=decide_eq_true c7
  clear c7
  by_cases c8:(ji6)<(aa.length:Int)
  ·rw[if_pos c8]at H
   have ap:decide ((ji6)<(aa.length:Int))=true:=decide_eq_true c8
   clear c8
   replace H:=Option.bind_eq_some_iff.mp H
   obtain⟨ab,A90,H⟩:=H
   replace H:(some (wrap64 ((wrap64 (64*(ji6)))+ab)))=some r:=H
   have A9:=Aside0.mk A90
   clear A90
   obtain rfl:=Option.some.inj H
   go_enter Tryz.func53,Tryz.ntmps53
   go_wp2_with (first|((with_reducible refine gate_callee (f:=96) rfl ?_);refine kgl (some 4) rfl rfl Tryz.func96 #[.slice A0 l0.length c0] rfl ?_;(with_reducible refine(nat_trim.calls k (fun k_=>k_<w.heap.size) _ _ l0 aa _ ?side1 A2.out).mono ?_);(case side1=>exact Kd.V_mk HC0.out (Kd.F_below (Kd.C_F (Kd.heap_int .u64) HR0.out) (khu HB.out)));rintro e w10 ⟨af,rfl,ho0,hb⟩;refine⟨_,rfl,?_⟩;have HO1106:=Aside0.mk (Kd.V_lower (Kd.V_mono (ok':=fun k_=>True) ho0 (fun k_ hk_=>trivial)) (below_size (khu HB.out)));replace HB:=kbs HB hb;(try clear hb);(try clear hb2);(try clear hk);(try clear hi);(try clear ho0);obtain⟨aq,ar,aj⟩:=Kd.V_slice HO1106.out;subst aj;have ad:0≤((ji6):Int):=of_decide_eq_true ‹_›;have ae:(ji6)<(aa.length:Int):=of_decide_eq_true ‹_›;obtain⟨al,ag,ak⟩:=Kd.at_int (Kd.V_reads' HO1106.out).2.2 (ji6) ad ae;cases ag;replace ad:=eq_true ad;replace ae:=eq_true ae)|((with_reducible refine gate_callee (f:=97) rfl ?_);refine goesL_ (some 18) rfl rfl Tryz.func97 Z0 rfl #[.int .u64 (rd aa (ji6))] rfl (by(try simp only[List.map_toArray,List.map_cons,List.map_nil]);first|done|(simp only[ac];rfl)|rfl|(simp only[List.length_drop,List.length_take];rfl)) ?_;(with_reducible refine(bits_Len64.calls (rd aa (ji6)) ab _ A9.out).mono ?_);rintro e w' ⟨rfl,⟨nd,rfl⟩⟩;refine⟨_,rfl,?_⟩))
   go_ret
   exact⟨by first|rfl|(simp[errW_none,errW_some]<;>rfl)|(simp only[←ac];first|rfl|(simp[errW_none,errW_some]<;>rfl))|(simp[*,errW_none,errW_some]<;>rfl),khu HB.out⟩
  rw[if_neg c8]at H
  exact absurd H F1
 rw[if_neg c7]at H
 exact absurd H F1
def bits_Right.f (k:Nat) (a0_0:Int) (l0_1:List Int):Option (Bool):=if a0_0≥1 then(if a0_0≤4096 then((nat_Len.f k l0_1).bind fun t1110=>(some (decide (t1110≤a0_0)))) else(some false)) else(some false)
theorem bits_Right.mono:∀a0 a1 k,LeO (bits_Right.f k a0 a1) (bits_Right.f (k+1) a0 a1):=by
 intro a0 a1 k
 unfold bits_Right.f
 repeat' first
   | (with_reducible exact nat_Len.mono _ _)
   | (with_reducible exact LeO.refl _)
   | (with_reducible exact LeO.none _)
   | (with_reducible refine LeO.ite ?_ ?_)
   | (with_reducible refine LeO.bind ?_ (fun _=>?_))
   | exact nat_Len.mono _ _
   | exact LeO.none _
   | refine LeO.ite ?_ ?_
   | refine LeO.bind ?_ (fun _=>?_)
def bits_Right.T1:Bool×List (List Nat×List Nat):=(true,[([],[]),([0],[0]),([1],[1]),([2],[2]),([3],[3]),([4,3],[3,4]),([5,3],[3,5]),([3,6],[3,6]),([7,3],[7]),([8],[8]),([9,8],[8,9]),([10,8,8],[8,10]),([8],[8]),([12,8],[8,12]),([11,13,8],[8,11,13]),([8,14],[8,14]),([15,11,0,1,2,3,4,5,6,7,8,9,10,11,12,13,14,15],[15])])
def bits_Right.B1:List Nat:=[0,1,3,7,15,31,63,127,255,511,1023,2047,511,4607,16383,32767,65535]
theorem bits_Right.tab1:rtab .any (opsOf Tryz.f29 1)=bits_Right.T1:=by kernel_rfl
theorem bits_Right.bits1:waitsOk bits_Right.T1.2 bits_Right.B1=true:=by kernel_rfl
theorem bits_Right.calls (k:Nat) (aa:Int) (ac:Option Addr) (ad:Nat) (ab:List Int) (r:Bool) (w:World) (ae:Kd.C (Kd.int .u64) w ac ab.length ab) (af:ab.length≤ad) (h:bits_Right.f k aa ab=some r) :
  Calls Tryz.prog 29 #[.agg #[.int .i64 aa,.slice ac ab.length ad]] w fun e w'=>e=.returned (.bool r)∧Below w.heap.size w w':=by
 have ai:=Tryz.underlying28
 have K:=Kp.refl w
 replace K:=K.parV (Kd.V_mono (ok':=fun _=>True) (Kd.V_mk (e:=48) (base:=0) af (Kd.C_F (Kd.heap_int .u64) ae)) (fun _ h=>trivial))
 clear ae af
 try simp only[klv]at K
 rw[bits_Right.f]at h
 go_enter Tryz.func29,Tryz.ntmps29
 go_wp2_with (first|(refine gd 1 rfl ?_;refine kbk 1 #[.int .i64 aa,.slice ac ab.length ad] 28 K.u ?_;clear K;intro g1 W2 K))
 by_cases c_0:aa≥1
 ·rw[if_pos c_0]at h
  have ag:decide (aa≥1)=true:=decide_eq_true c_0
  by_cases c_1:aa≤4096
  ·rw[if_pos c_1]at h
   have ah:decide (aa≤4096)=true:=decide_eq_true c_1
   replace h:=bindA h
   obtain⟨n3,A4,h⟩:=h
   obtain⟨Bs,Vs,Os,hBs,hVs,hOs,K⟩:=K.abs
   have HS:Aside0 (∀l m o W,Kp w (Bs++l) m o W→W.cell? ⟨g1,0,none⟩=some (.int .i64 aa)∧W.cell? ⟨g1,1,none⟩=some (.slice ac ab.length ad)):=⟨fun l m o W K=>by rw[hBs.out]at K;exact⟨K.cell 0 rfl 0 rfl,K.cell 0 rfl 1 rfl⟩⟩
   refine kpstart (n:=17) (ds:=[]) (S:=fun W=>W.cell? ⟨g1,0,none⟩=some (.int .i64 aa)∧W.cell? ⟨g1,1,none⟩=some (.slice ac ab.length ad)) (bm_ 17 0) Z0 rfl rfl K (HS.out [] _ _) (fun W5 K hH=>?_)
   refine with_tabW bits_Right.tab1 bits_Right.bits1 (fun HT_ HW_=>?_)
   refine pu_ 0 3 ?_ (bm_ 17 1) rfl rfl (any_of HT_.out Z0) (fun _ _ _ h=>h) B0 ?_ ?_ ?_ ?_
   rotate_left
   ·intro w'
    go_simp
    with_reducible rfl
   rotate_left
   ·simp only[Act.put,kss,i64_w,i32_w]
    rfl
   refine tk_ 1 4 ?_ (bm_ 17 3) rfl rfl (take_ofW HT_.out HW_.out Z0) (fun _ _ _ h=>h) B0 ?_ hH ?_ ?_ ?_
   rotate_left
   ·rintro w' ⟨s0,s1⟩
    go_simp
    with_reducible rfl
   rotate_left
   ·simp only[Act.put,kss,i64_w,i32_w]
    rfl
   refine pu_ 2 5 ?_ (bm_ 17 7) rfl rfl (any_of HT_.out Z0) (fun _ _ _ h=>h) B0 ?_ ?_ ?_ ?_
   rotate_left
   ·intro w'
    go_simp
    with_reducible rfl
   rotate_left
   ·simp only[Act.put,kss,i64_w,i32_w]
    rfl
   refine pu_ 3 6 ?_ (bm_ 17 15) rfl rfl (any_of HT_.out Z0) (fun _ _ _ h=>h) B0 ?_ ?_ ?_ ?_
   rotate_left
   ·intro w'
    go_simp
    with_reducible rfl
   rotate_left
   ·simp only[Act.put,kss,i64_w,i32_w]
    rfl
   refine pu_ 4 7 ?_ (bm_ 17 31) rfl rfl (any_of HT_.out Z0) (fun _ _ _ h=>h) B0 ?_ ?_ ?_ ?_
   rotate_left
   ·intro w'
    go_simp
    with_reducible rfl
   rotate_left
   ·simp only[Act.put,kss,i64_w,i32_w]
    rfl
   refine tk_ 5 8 ?_ (bm_ 17 63) rfl rfl (take_ofW HT_.out HW_.out Z0) (fun _ _ _ h=>h) B0 ?_ hH ?_ ?_ ?_
   rotate_left
   ·rintro w' ⟨s0,s1⟩
    go_simp
    with_reducible rfl
   rotate_left
   ·simp only[Act.put,kss,i64_w,i32_w]
    rfl
   refine pu_ 6 9 ?_ (bm_ 17 127) rfl rfl (any_of HT_.out Z0) (fun _ _ _ h=>h) B0 ?_ ?_ ?_ ?_
   rotate_left
   ·intro w'
    go_simp
    with_reducible rfl
   rotate_left
   ·simp only[Act.put,kss,i64_w,i32_w]
    rfl
   refine pu_ 7 10 ?_ (bm_ 17 255) rfl rfl (any_of HT_.out Z0) (fun _ _ _ h=>h) B0 ?_ ?_ ?_ ?_
   rotate_left
   ·intro w'
    go_simp
    with_reducible rfl
   rotate_left
   ·simp only[Act.put,kss,i64_w,i32_w]
    rfl
   refine pu_ 8 11 ?_ (bm_ 17 511) rfl rfl (any_of HT_.out Z0) (fun _ _ _ h=>h) B0 ?_ ?_ ?_ ?_
   rotate_left
   ·intro w'
    go_simp
    with_reducible rfl
   rotate_left
   ·simp only[Act.put,kss,i64_w,i32_w]
    rfl
   refine pu_ 9 12 ?_ (bm_ 17 1023) rfl rfl (any_of HT_.out Z0) (fun _ _ _ h=>h) B0 ?_ ?_ ?_ ?_
   rotate_left
   ·intro w'
    go_simp
    with_reducible rfl
   rotate_left
   ·simp only[Act.put,kss,i64_w,i32_w]
    rfl
   refine tk_ 10 13 ?_ (bm_ 17 2047) rfl rfl (take_ofW HT_.out HW_.out Z0) (fun _ _ _ h=>h) B0 ?_ hH ?_ ?_ ?_
   rotate_left
   ·rintro w' ⟨s0,s1⟩
    go_simp
    with_reducible rfl
   rotate_left
   ·simp only[Act.put,kss,i64_w,i32_w]
    rfl
   refine pu_ 12 15 ?_ (bm_ 17 6143) rfl rfl (any_of HT_.out Z0) (fun _ _ _ h=>h) B0 ?_ ?_ ?_ ?_
   rotate_left
   ·intro w'
    go_simp
    with_reducible rfl
   rotate_left
   ·simp only[Act.put,kss,i64_w,i32_w]
    rfl
   refine tk_ 13 16 ?_ (bm_ 17 14335) rfl rfl (take_ofW HT_.out HW_.out Z0) (fun _ _ _ h=>h) B0 ?_ hH ?_ ?_ ?_
   rotate_left
   ·rintro w' ⟨s0,s1⟩
    go_simp
    with_reducible rfl
   rotate_left
   ·simp only[Act.put,kss,i64_w,i32_w]
    rfl
   refine one_ (i:=11) (N:=some 14) (bm_ 17 16383) rfl rfl (one_of HT_.out Z0) X0 (fun Kc hK=>?_)
   refine kgo Tryz.func53 #[.slice ac ab.length ad] B0 rfl rfl ?_
   refine(nat_Len.calls _ _ _ ab n3 _ (K.C 0 (hv hVs rfl)) (K.le 0 (hv hVs rfl)) A4.out).mono ?_
   rintro e W' ⟨rfl,hb⟩
   replace K:=K.up hb
   clear hb
   refine⟨_,rfl,hK.out _ _ (HS.out _ _ _ _ K) fun hH=>?_⟩
   refine norm_ (a':=?_) ?_ ?_
   rotate_left
   ·show Act.put _ (some 14) _=_
    simp only[Act.put,kss,i64_w,i32_w]
    rfl
   refine pu_ 14 17 ?_ (bm_ 17 32767) rfl rfl (any_of HT_.out Z0) (fun _ _ _ h=>h) B0 ?_ ?_ ?_ ?_
   rotate_left
   ·intro w'
    go_simp
    with_reducible rfl
   rotate_left
   ·simp only[Act.put,kss,i64_w,i32_w]
    rfl
   refine pu_ 15 18 ?_ (bm_ 17 65535) rfl rfl (any_of HT_.out Z0) (fun _ _ _ h=>h) B0 ?_ ?_ ?_ ?_
   rotate_left
   ·intro w'
    go_simp
    with_reducible rfl
   rotate_left
   ·simp only[Act.put,kss,i64_w,i32_w]
    rfl
   refine pu_ 16 2 ?_ (bm_ 17 131071) rfl rfl (any_of HT_.out Z0) (fun _ _ _ h=>h) B0 ?_ ?_ ?_ ?_
   rotate_left
   ·intro w'
    go_simp
    with_reducible rfl
   rotate_left
   ·simp only[Act.put,kss,i64_w,i32_w]
    rfl
   clear hK Kc
   rw[hBs.out,hVs.out,hOs.out]at K
   simp only[kls,klv]at K
   clear hBs hVs hOs HS hH
   refine done_ (done_of HT_.out Z0) ?_
   clear HT_ HW_
   simp only[Option.some.injEq]at h
   subst h
   go_wp2
   go_ret
   exact⟨rfl,K.u.below⟩
  rw[if_neg c_1]at h
  have ah:decide (aa≤4096)=false:=decide_eq_false c_1
  obtain⟨Bs,Vs,Os,hBs,hVs,hOs,K⟩:=K.abs
  have HS:Aside0 (∀l m o W,Kp w (Bs++l) m o W→W.cell? ⟨g1,0,none⟩=some (.int .i64 aa)∧W.cell? ⟨g1,1,none⟩=some (.slice ac ab.length ad)):=⟨fun l m o W K=>by rw[hBs.out]at K;exact⟨K.cell 0 rfl 0 rfl,K.cell 0 rfl 1 rfl⟩⟩
  refine kpstart (n:=17) (ds:=[]) (S:=fun W=>W.cell? ⟨g1,0,none⟩=some (.int .i64 aa)∧W.cell? ⟨g1,1,none⟩=some (.slice ac ab.length ad)) (bm_ 17 0) Z0 rfl rfl K (HS.out [] _ _) (fun W3 K hH=>?_)
  refine with_tabW bits_Right.tab1 bits_Right.bits1 (fun HT_ HW_=>?_)
  refine pu_ 0 3 ?_ (bm_ 17 1) rfl rfl (any_of HT_.out Z0) (fun _ _ _ h=>h) B0 ?_ ?_ ?_ ?_
  rotate_left
  ·intro w'
   go_simp
   with_reducible rfl
  rotate_left
  ·simp only[Act.put,kss,i64_w,i32_w]
   rfl
  refine tk_ 1 4 ?_ (bm_ 17 3) rfl rfl (take_ofW HT_.out HW_.out Z0) (fun _ _ _ h=>h) B0 ?_ hH ?_ ?_ ?_
  rotate_left
  ·rintro w' ⟨s0,s1⟩
   go_simp
   with_reducible rfl
  rotate_left
  ·simp only[Act.put,kss,i64_w,i32_w]
   rfl
  refine pu_ 2 5 ?_ (bm_ 17 7) rfl rfl (any_of HT_.out Z0) (fun _ _ _ h=>h) B0 ?_ ?_ ?_ ?_
  rotate_left
  ·intro w'
   go_simp
   with_reducible rfl
  rotate_left
  ·simp only[Act.put,kss,i64_w,i32_w]
   rfl
  refine pu_ 3 6 ?_ (bm_ 17 15) rfl rfl (any_of HT_.out Z0) (fun _ _ _ h=>h) B0 ?_ ?_ ?_ ?_
  rotate_left
  ·intro w'
   go_simp
   with_reducible rfl
  rotate_left
  ·simp only[Act.put,kss,i64_w,i32_w]
   rfl
  refine pu_ 4 7 ?_ (bm_ 17 31) rfl rfl (any_of HT_.out Z0) (fun _ _ _ h=>h) B0 ?_ ?_ ?_ ?_
  rotate_left
  ·intro w'
   go_simp
   with_reducible rfl
  rotate_left
  ·simp only[Act.put,kss,i64_w,i32_w]
   rfl
  refine tk_ 5 8 ?_ (bm_ 17 63) rfl rfl (take_ofW HT_.out HW_.out Z0) (fun _ _ _ h=>h) B0 ?_ hH ?_ ?_ ?_
  rotate_left
  ·rintro w' ⟨s0,s1⟩
   go_simp
   with_reducible rfl
  rotate_left
  ·simp only[Act.put,kss,i64_w,i32_w]
   rfl
  refine pu_ 6 9 ?_ (bm_ 17 127) rfl rfl (any_of HT_.out Z0) (fun _ _ _ h=>h) B0 ?_ ?_ ?_ ?_
  rotate_left
  ·intro w'
   go_simp
   with_reducible rfl
  rotate_left
  ·simp only[Act.put,kss,i64_w,i32_w]
   rfl
  refine pu_ 7 10 ?_ (bm_ 17 255) rfl rfl (any_of HT_.out Z0) (fun _ _ _ h=>h) B0 ?_ ?_ ?_ ?_
  rotate_left
  ·intro w'
   go_simp
   with_reducible rfl
  rotate_left
  ·simp only[Act.put,kss,i64_w,i32_w]
   rfl
  refine pu_ 8 11 ?_ (bm_ 17 511) rfl rfl (any_of HT_.out Z0) (fun _ _ _ h=>h) B0 ?_ ?_ ?_ ?_
  rotate_left
  ·intro w'
   go_simp
   with_reducible rfl
  rotate_left
  ·simp only[Act.put,kss,i64_w,i32_w]
   rfl
  refine pure_ (i:=9) (N:=some 12) (v:=undef) (a':=?_) (bm_ 17 1023) rfl rfl (any_of HT_.out Z0) (fun _ _ _ h=>h) (Or.inr ⟨B0,rfl⟩) ?_ ?_
  rotate_left
  ·simp only[Act.put,kss,i64_w,i32_w]
   rfl
  refine pure_ (i:=10) (N:=some 13) (v:=undef) (a':=?_) (bm_ 17 2047) rfl rfl (any_of HT_.out Z0) (fun _ _ _ h=>h) (Or.inr ⟨B0,rfl⟩) ?_ ?_
  rotate_left
  ·simp only[Act.put,kss,i64_w,i32_w]
   rfl
  refine pure_ (i:=11) (N:=some 14) (v:=undef) (a':=?_) (bm_ 17 4095) rfl rfl (any_of HT_.out Z0) (fun _ _ _ h=>h) (Or.inr ⟨B0,rfl⟩) ?_ ?_
  rotate_left
  ·simp only[Act.put,kss,i64_w,i32_w]
   rfl
  refine pure_ (i:=12) (N:=some 15) (v:=undef) (a':=?_) (bm_ 17 8191) rfl rfl (any_of HT_.out Z0) (fun _ _ _ h=>h) (Or.inr ⟨B0,rfl⟩) ?_ ?_
  rotate_left
  ·simp only[Act.put,kss,i64_w,i32_w]
   rfl
  refine pure_ (i:=13) (N:=some 16) (v:=undef) (a':=?_) (bm_ 17 16383) rfl rfl (any_of HT_.out Z0) (fun _ _ _ h=>h) (Or.inr ⟨B0,rfl⟩) ?_ ?_
  rotate_left
  ·simp only[Act.put,kss,i64_w,i32_w]
   rfl
  refine pure_ (i:=14) (N:=some 17) (v:=undef) (a':=?_) (bm_ 17 32767) rfl rfl (any_of HT_.out Z0) (fun _ _ _ h=>h) (Or.inr ⟨B0,rfl⟩) ?_ ?_
  rotate_left
  ·simp only[Act.put,kss,i64_w,i32_w]
   rfl
  refine pu_ 15 18 ?_ (bm_ 17 65535) rfl rfl (any_of HT_.out Z0) (fun _ _ _ h=>h) B0 ?_ ?_ ?_ ?_
  rotate_left
  ·intro w'
   go_simp
   with_reducible rfl
  rotate_left
  ·simp only[Act.put,kss,i64_w,i32_w]
   rfl
  refine pu_ 16 2 ?_ (bm_ 17 131071) rfl rfl (any_of HT_.out Z0) (fun _ _ _ h=>h) B0 ?_ ?_ ?_ ?_
  rotate_left
  ·intro w'
   go_simp
   with_reducible rfl
  rotate_left
  ·simp only[Act.put,kss,i64_w,i32_w]
   rfl
  rw[hBs.out,hVs.out,hOs.out]at K
  simp only[kls,klv]at K
  clear hBs hVs hOs HS hH
  refine done_ (done_of HT_.out Z0) ?_
  clear HT_ HW_
  simp only[Option.some.injEq]at h
  subst h
  go_wp2
  go_ret
  exact⟨rfl,K.u.below⟩
 rw[if_neg c_0]at h
 have ag:decide (aa≥1)=false:=decide_eq_false c_0
 obtain⟨Bs,Vs,Os,hBs,hVs,hOs,K⟩:=K.abs
 have HS:Aside0 (∀l m o W,Kp w (Bs++l) m o W→W.cell? ⟨g1,0,none⟩=some (.int .i64 aa)∧W.cell? ⟨g1,1,none⟩=some (.slice ac ab.length ad)):=⟨fun l m o W K=>by rw[hBs.out]at K;exact⟨K.cell 0 rfl 0 rfl,K.cell 0 rfl 1 rfl⟩⟩
 refine kpstart (n:=17) (ds:=[]) (S:=fun W=>W.cell? ⟨g1,0,none⟩=some (.int .i64 aa)∧W.cell? ⟨g1,1,none⟩=some (.slice ac ab.length ad)) (bm_ 17 0) Z0 rfl rfl K (HS.out [] _ _) (fun W3 K hH=>?_)
 refine with_tabW bits_Right.tab1 bits_Right.bits1 (fun HT_ HW_=>?_)
 refine pu_ 0 3 ?_ (bm_ 17 1) rfl rfl (any_of HT_.out Z0) (fun _ _ _ h=>h) B0 ?_ ?_ ?_ ?_
 rotate_left
 ·intro w'
  go_simp
  with_reducible rfl
 rotate_left
 ·simp only[Act.put,kss,i64_w,i32_w]
  rfl
 refine tk_ 1 4 ?_ (bm_ 17 3) rfl rfl (take_ofW HT_.out HW_.out Z0) (fun _ _ _ h=>h) B0 ?_ hH ?_ ?_ ?_
 rotate_left
 ·rintro w' ⟨s0,s1⟩
  go_simp
  with_reducible rfl
 rotate_left
 ·simp only[Act.put,kss,i64_w,i32_w]
  rfl
 refine pu_ 2 5 ?_ (bm_ 17 7) rfl rfl (any_of HT_.out Z0) (fun _ _ _ h=>h) B0 ?_ ?_ ?_ ?_
 rotate_left
 ·intro w'
  go_simp
  with_reducible rfl
 rotate_left
 ·simp only[Act.put,kss,i64_w,i32_w]
  rfl
 refine pu_ 3 6 ?_ (bm_ 17 15) rfl rfl (any_of HT_.out Z0) (fun _ _ _ h=>h) B0 ?_ ?_ ?_ ?_
 rotate_left
 ·intro w'
  go_simp
  with_reducible rfl
 rotate_left
 ·simp only[Act.put,kss,i64_w,i32_w]
  rfl
 refine pure_ (i:=4) (N:=some 7) (v:=undef) (a':=?_) (bm_ 17 31) rfl rfl (any_of HT_.out Z0) (fun _ _ _ h=>h) (Or.inr ⟨B0,rfl⟩) ?_ ?_
 rotate_left
 ·simp only[Act.put,kss,i64_w,i32_w]
  rfl
 refine pure_ (i:=5) (N:=some 8) (v:=undef) (a':=?_) (bm_ 17 63) rfl rfl (any_of HT_.out Z0) (fun _ _ _ h=>h) (Or.inr ⟨B0,rfl⟩) ?_ ?_
 rotate_left
 ·simp only[Act.put,kss,i64_w,i32_w]
  rfl
 refine pure_ (i:=6) (N:=some 9) (v:=undef) (a':=?_) (bm_ 17 127) rfl rfl (any_of HT_.out Z0) (fun _ _ _ h=>h) (Or.inr ⟨B0,rfl⟩) ?_ ?_
 rotate_left
 ·simp only[Act.put,kss,i64_w,i32_w]
  rfl
 refine pu_ 7 10 ?_ (bm_ 17 255) rfl rfl (any_of HT_.out Z0) (fun _ _ _ h=>h) B0 ?_ ?_ ?_ ?_
 rotate_left
 ·intro w'
  go_simp
  with_reducible rfl
 rotate_left
 ·simp only[Act.put,kss,i64_w,i32_w]
  rfl
 refine pu_ 8 11 ?_ (bm_ 17 511) rfl rfl (any_of HT_.out Z0) (fun _ _ _ h=>h) B0 ?_ ?_ ?_ ?_
 rotate_left
 ·intro w'
  go_simp
  with_reducible rfl
 rotate_left
 ·simp only[Act.put,kss,i64_w,i32_w]
  rfl
 refine pure_ (i:=9) (N:=some 12) (v:=undef) (a':=?_) (bm_ 17 1023) rfl rfl (any_of HT_.out Z0) (fun _ _ _ h=>h) (Or.inr ⟨B0,rfl⟩) ?_ ?_
 rotate_left
 ·simp only[Act.put,kss,i64_w,i32_w]
  rfl
 refine pure_ (i:=10) (N:=some 13) (v:=undef) (a':=?_) (bm_ 17 2047) rfl rfl (any_of HT_.out Z0) (fun _ _ _ h=>h) (Or.inr ⟨B0,rfl⟩) ?_ ?_
 rotate_left
 ·simp only[Act.put,kss,i64_w,i32_w]
  rfl
 refine pure_ (i:=11) (N:=some 14) (v:=undef) (a':=?_) (bm_ 17 4095) rfl rfl (any_of HT_.out Z0) (fun _ _ _ h=>h) (Or.inr ⟨B0,rfl⟩) ?_ ?_
 rotate_left
 ·simp only[Act.put,kss,i64_w,i32_w]
  rfl
 refine pure_ (i:=12) (N:=some 15) (v:=undef) (a':=?_) (bm_ 17 8191) rfl rfl (any_of HT_.out Z0) (fun _ _ _ h=>h) (Or.inr ⟨B0,rfl⟩) ?_ ?_
 rotate_left
 ·simp only[Act.put,kss,i64_w,i32_w]
  rfl
 refine pure_ (i:=13) (N:=some 16) (v:=undef) (a':=?_) (bm_ 17 16383) rfl rfl (any_of HT_.out Z0) (fun _ _ _ h=>h) (Or.inr ⟨B0,rfl⟩) ?_ ?_
 rotate_left
 ·simp only[Act.put,kss,i64_w,i32_w]
  rfl
 refine pure_ (i:=14) (N:=some 17) (v:=undef) (a':=?_) (bm_ 17 32767) rfl rfl (any_of HT_.out Z0) (fun _ _ _ h=>h) (Or.inr ⟨B0,rfl⟩) ?_ ?_
 rotate_left
 ·simp only[Act.put,kss,i64_w,i32_w]
  rfl
 refine pu_ 15 18 ?_ (bm_ 17 65535) rfl rfl (any_of HT_.out Z0) (fun _ _ _ h=>h) B0 ?_ ?_ ?_ ?_
 rotate_left
 ·intro w'
  go_simp
  with_reducible rfl
 rotate_left
 ·simp only[Act.put,kss,i64_w,i32_w]
  rfl
 refine pu_ 16 2 ?_ (bm_ 17 131071) rfl rfl (any_of HT_.out Z0) (fun _ _ _ h=>h) B0 ?_ ?_ ?_ ?_
 rotate_left
 ·intro w'
  go_simp
  with_reducible rfl
 rotate_left
 ·simp only[Act.put,kss,i64_w,i32_w]
  rfl
 rw[hBs.out,hVs.out,hOs.out]at K
 simp only[kls,klv]at K
 clear hBs hVs hOs HS hH
 refine done_ (done_of HT_.out Z0) ?_
 clear HT_ HW_
 simp only[Option.some.injEq]at h
 subst h
 go_wp2
 go_ret
 exact⟨rfl,K.u.below⟩
def bits_vectors_1.f (k:Nat) (a0_0:Int) (l0_1:List Int):Option (Bool):=(bits_Right.f k a0_0 l0_1).bind fun t1112=>(some (!t1112))
theorem bits_vectors_1.calls (k:Nat) (a0_0:Int) (A0_1:Option Addr) (c0_1:Nat) (l0_1:List Int) (r:Bool) (w:World) (hr0_1:Kd.C (Kd.int .u64) w A0_1 l0_1.length l0_1) (hc0_1:l0_1.length≤c0_1) (h:bits_vectors_1.f k a0_0 l0_1=some r) :
  Calls Tryz.prog 69 #[.agg #[.int .i64 a0_0,.slice A0_1 l0_1.length c0_1]] w fun e w'=>e=.returned (.bool r)∧Below w.heap.size w w':=by
 have hu28:=Tryz.underlying28
 have K:=Kp.refl w
 replace K:=K.parV (Kd.V_mono (ok':=fun _=>True) (Kd.V_mk (e:=48) (base:=0) hc0_1 (Kd.C_F (Kd.heap_int .u64) hr0_1)) (fun _ h=>trivial))
 clear hr0_1 hc0_1
 try simp only[klv]at K
 rw[bits_vectors_1.f]at h
 replace h:=bindA h
 obtain⟨z3,A4,h⟩:=h
 simp only[Option.some.injEq]at h
 subst h
 go_enter Tryz.func69,Tryz.ntmps69
 go_wp2_with (first|(refine gd 1 rfl ?_;refine kbk 1 #[.int .i64 a0_0,.slice A0_1 l0_1.length c0_1] 28 K.u ?_;clear K;intro g1 W2 K;obtain⟨ua0,ub0⟩:=K.cell2 0 rfl)|(refine gd 4 rfl ?_;clear ua0 ub0;refine kgl (some 4) rfl rfl Tryz.func29 #[.agg #[.int .i64 a0_0,.slice A0_1 l0_1.length c0_1]] rfl ?_;refine(bits_Right.calls _ a0_0 _ _ l0_1 z3 _ (K.C 0 rfl) (K.le 0 rfl) A4.out).mono ?_;rintro e W5 ⟨rfl,hb⟩;refine⟨_,rfl,?_⟩;replace K:=K.u.up hb;clear hb))
 go_ret
 exact⟨rfl,K.u.below⟩
end Go.Proofs.YtncomlmhagaajaaGreat.PBo
section
set_option maxHeartbeats 8000000
set_option maxRecDepth 100000
set_option linter.unusedVariables false
set_option linter.unusedSimpArgs false
namespace Go.Proofs.YtncomlmhagaajaaGreat.PBo
open Go Go.RowKit Go.Proofs.YtncomlmhagaajaaGreatW.PrintWords Go.Proofs.YtncomlmhagaajaaGreatW.PrintLast Go.Proofs.YtncomlmhagaajaaGreatW.PrintMore Go.Proofs.YtncomlmhagaajaaGreat.Mine
instance:Inhabited S28:=⟨z28⟩
def laysQ8_ren:Go.Shelf.Ren:=⟨fun|8=>68|6=>141|n=>n,fun|22=>24|23=>28|25=>59|4=>4|3=>3|0=>0|n=>n,fun|n=>n⟩
theorem laysQ8:Go.Proofs.SlLaysH0.n8 Tryz.prog laysQ8_ren:={
 mixed:=by kernel_rfl
 f6:=⟨Tryz.f141.name,X0,Tryz.func141.trans (congrArg some Z0)⟩
 f8:=⟨Tryz.f68.name,X0,Tryz.func68.trans (congrArg some Z0)⟩
 t0:=Tryz.underlying0
 a0:=Tryz.isAgg0
 z0:=Tryz.sizeOf0
 v0:=Tryz.zeroValue0
 t3:=Tryz.underlying3
 a3:=Tryz.isAgg3
 z3:=Tryz.sizeOf3
 v3:=Tryz.zeroValue3
 t4:=Tryz.underlying4
 a4:=Tryz.isAgg4
 z4:=Tryz.sizeOf4
 v4:=Tryz.zeroValue4
 t22:=Tryz.underlying24
 a22:=Tryz.isAgg24
 z22:=Tryz.sizeOf24
 v22:=Tryz.zeroValue24
 t25:=Tryz.underlying59
 a25:=Tryz.isAgg59
 z25:=Tryz.sizeOf59
 v25:=Tryz.zeroValue59}
theorem vec_place {w:World} {A:Option Addr} {l:List S28} (h:Kd.C k28 w A l.length l) (hl:l≠[]) :
  ∃(bk o:Nat) (F:Fin l.length→Option Addr×Nat),A=some ⟨bk,o,none⟩∧bk<w.heap.size∧(∀j:Fin l.length,l[j].f1.length≤(F j).2∧Kd.C (Kd.int .u64) w (F j).1 l[j].f1.length l[j].f1)∧∀j:Fin l.length,∀i v,[Value.int .i64 l[j].f0,.slice (F j).1 l[j].f1.length (F j).2][i]? = some v→w.cell? ⟨bk,o+j.1*2+i,none⟩=some v:=by
 have h0:0<l.length:=List.length_pos_iff.2 hl
 obtain⟨ad,rfl,hc⟩:=h.2.2 h0
 obtain⟨bk,o,sp⟩:=ad
 have key:∀j:Fin l.length,∃p:Option Addr×Nat,(l[j].f1.length≤p.2∧Kd.C (Kd.int .u64) w p.1 l[j].f1.length l[j].f1)∧∀i v,[Value.int .i64 l[j].f0,.slice p.1 l[j].f1.length p.2][i]? = some v→w.cell? ((⟨bk,o,sp⟩:Addr).add (j.1*2+i))=some v:=by
  intro j
  obtain⟨c,hlen,hK,hcell⟩:=hc j.1 l[j] (List.getElem?_eq_getElem j.2)
  obtain⟨A1,c1,rfl,h1,h2⟩:=k28_open hK
  exact⟨(A1,c1),⟨h1,h2⟩,fun i v hv=>hcell i v hv⟩
 have hsp:sp=none:=by
  obtain⟨p,_,hp⟩:=key ⟨0,h0⟩
  have:=hp 0 _ rfl
  simp only[Addr.add,Nat.zero_mul,Nat.add_zero,if_true]at this
  unfold World.cell? at this
  split at this
  ·split at this
   ·cases this
   cases sp with
   | none=>rfl
   | some s=>simp_all
  cases this
 subst hsp
 obtain⟨F,hF⟩:=Classical.axiomOfChoice key
 have cells:∀j:Fin l.length,∀i v,[Value.int .i64 l[j].f0,.slice (F j).1 l[j].f1.length (F j).2][i]? = some v→w.cell? ⟨bk,o+j.1*2+i,none⟩=some v:=by
  intro j i v hv
  have:=(hF j).2 i v hv
  simp only[Addr.add]at this
  split at this
  ·rename_i h
   rw[show o+j.1*2+i=o from by omega];exact this
  rw[Nat.add_assoc];exact this
 exact⟨bk,o,F,rfl,World.block_lt_of_cell? w _ (cells ⟨0,h0⟩ 0 _ rfl),fun j=>(hF j).1,cells⟩
theorem any_fin {α:Type} (l:List α) (q:α→Bool):(List.ofFn (fun j:Fin l.length=>j)).any (fun j=>q l[j])=l.any q:=by
 have h:(List.ofFn (fun j:Fin l.length=>j)).map (fun j=>l[j])=l:=by
  rw[List.map_ofFn]
  exact List.ofFn_getElem
 conv=>rhs;rw[←h,List.any_map]
 rfl
theorem contains_vec (q:S28→Bool) (g:Nat) (lb:Array Value) (eg:∀args w,(callFunc g args).run Tryz.prog w=.ok (.enter g args) w) (A:Option Addr) (c:Nat) (l:List S28) (w:World) (hC:Kd.C k28 w A l.length l) (hne:l≠[]) (hb:l.length≤9223372036854775807)
  (hp:∀(W:World) (x:S28),x∈l→∀B d,x.f1.length≤d→Kd.C (Kd.int .u64) W B x.f1.length x.f1→Below w.heap.size w W→Calls Tryz.prog g (#[.agg #[.int .i64 x.f0,.slice B x.f1.length d]]++lb) W fun e w'=>e=.returned (.bool (q x))∧Below W.heap.size W w') :
  Calls Tryz.prog 68 #[.slice A l.length c,.func (.func g) #[] lb] w fun e w'=>e=.returned (.bool (l.any q))∧Below w.heap.size w w':=by
 obtain⟨bk,o,F,rfl,hlt,hF,hcells⟩:=vec_place hC hne
 have h0:0<l.length:=List.length_pos_iff.2 hne
 letI:Inhabited (Fin l.length):=⟨⟨0,h0⟩⟩
 have hz:(List.ofFn (fun j:Fin l.length=>j)).length=l.length:=List.length_ofFn
 have hget:∀j (hj:j<l.length),(List.ofFn (fun j:Fin l.length=>j))[j]! = ⟨j,hj⟩:=by
  intro j hj
  rw[getElem!_pos _ j (by rw[hz];exact hj),List.getElem_ofFn]
 have:=AnyQ.slices_ContainsFunc laysQ8 2 Tryz.isAgg28 Tryz.sizeOf28 (fun j:Fin l.length=>[Value.int .i64 l[j].f0,.slice (F j).1 l[j].f1.length (F j).2]) (fun _=>rfl) (fun j=>q l[j]) g lb eg bk o l.length c (List.ofFn (fun j:Fin l.length=>j)) w
  (fun W j hW=>(hp W l[j] (List.getElem_mem j.2) (F j).1 (F j).2 (hF j).1 (Kd.C_below (hF j).2 hW) hW).mono fun e w' h=>⟨h.1,hW.trans (h.2.mono hW.size)⟩) (by rw[hz];exact Nat.le_refl _) hb hlt
  (fun j hj i v hv=>by
   rw[hz]at hj
   rw[hget j hj]at hv
   exact hcells ⟨j,hj⟩ i v hv)
 rw[List.take_of_length_le (by rw[hz];exact Nat.le_refl _),any_fin]at this
 exact this
theorem enter69 (args:Array Value) (w:World):(callFunc 69 args).run Tryz.prog w=.ok (.enter 69 args) w:=by
 go_simp
theorem enter70 (args:Array Value) (w:World):(callFunc 70 args).run Tryz.prog w=.ok (.enter 70 args) w:=by
 go_simp
def rights (k:Nat):List S28→Option Bool
 | []=>some true
 | x::r=>(bits_Right.f k x.f0 x.f1).bind fun b=>(rights k r).bind fun c=>some (b&&c)
theorem rights_mono:∀(l:List S28) (k:Nat),LeO (rights k l) (rights (k+1) l)
 | [],_=>LeO.refl _
 | x::r,k=>by
  intro z h
  unfold rights at h ⊢
  obtain⟨b,hb,h⟩:=Option.bind_eq_some_iff.1 h
  obtain⟨c,hc,h⟩:=Option.bind_eq_some_iff.1 h
  rw[bits_Right.mono _ _ _ _ hb,Option.bind_some,rights_mono r k _ hc,Option.bind_some]
  exact h
theorem rights_spec {k:Nat}:∀ {l:List S28} {b:Bool},rights k l=some b→(∀x∈l,∃v,bits_Right.f k x.f0 x.f1=some v)∧b = !(l.any fun x => !((bits_Right.f k x.f0 x.f1).getD true))
 | [],b,h=>by
  obtain rfl:=Option.some.inj h
  exact⟨fun x hx=>(by cases hx),rfl⟩
 | x::r,b,h=>by
  unfold rights at h
  obtain⟨v,hv,h⟩:=Option.bind_eq_some_iff.1 h
  obtain⟨c,hc,h⟩:=Option.bind_eq_some_iff.1 h
  obtain rfl:=Option.some.inj h
  obtain⟨i1,i2⟩:=rights_spec hc
  refine⟨fun y hy=>?_,?_⟩
  ·rcases List.mem_cons.1 hy with rfl|hy
   ·exact⟨v,hv⟩
   exact i1 y hy
  rw[List.any_cons,hv,Option.getD_some,Bool.not_or,Bool.not_not,←i2]
def wideB (l:List S28):Bool:=l.any fun x=>x.f0 != (l.headD z28).f0
def bits_vectors.f (k:Nat) (a0:Int) (l:List S28):Option Int:=if l=[] then none else(rights k l).bind fun b=>if b=true then(if a0=41 then some 0 else if wideB l=true then some 52 else some 0) else some 90
theorem bits_vectors.mono (a0:Int) (l:List S28) (k:Nat):LeO (bits_vectors.f k a0 l) (bits_vectors.f (k+1) a0 l):=by
 intro z h
 unfold bits_vectors.f at h ⊢
 split at h
 ·cases h
 rename_i hl
 rw[if_neg hl]
 obtain⟨b,hb,h⟩:=Option.bind_eq_some_iff.1 h
 rw[rights_mono _ _ _ hb]
 exact h
theorem contains_right (k:Nat) (A:Option Addr) (c:Nat) (l:List S28) (b:Bool) (w:World) (hC:Kd.C k28 w A l.length l) (hne:l≠[]) (h:rights k l=some b) :
  Calls Tryz.prog 68 #[.slice A l.length c,.func (.func 69) #[] #[]] w fun e w'=>e=.returned (.bool (!b))∧Below w.heap.size w w':=by
 obtain⟨h1,h2⟩:=rights_spec h
 rw[h2,Bool.not_not]
 refine contains_vec (fun x => !((bits_Right.f k x.f0 x.f1).getD true)) 69 #[] enter69 A c l w hC hne hC.2.1 ?_
 intro W x hx B d hd hB hW
 obtain⟨v,hv⟩:=h1 x hx
 rw[hv,Option.getD_some]
 exact bits_vectors_1.calls k x.f0 B d x.f1 (!v) W hB hd (by rw[bits_vectors_1.f,hv,Option.bind_some])
theorem vectors_2 (n:Int) (B:Option Addr) (d:Nat) (m:List Int) (g:Nat) (bk o len c:Nat) (v0:Int) (W:World) (hg:W.cell? ⟨g,0,none⟩=some (.slice (some ⟨bk,o,none⟩) len c)) (h0:0<len) (hv:W.cell? ⟨bk,o,none⟩=some (.int .i64 v0)) :
  Calls Tryz.prog 70 #[.agg #[.int .i64 n,.slice B m.length d],.pointer (some ⟨g,0,none⟩)] W fun e w'=>e=.returned (.bool (n != v0))∧Below W.heap.size W w':=by
 have hgs:=World.block_lt_of_cell? W _ hg
 have hvs:=World.block_lt_of_cell? W _ hv
 have hlen:(0:Int)<len:=by omega
 go_enter Tryz.func70,Tryz.ntmps70
 go_wp2
 go_region
 go_wp2
 go_ret
 exact⟨rfl,below_drew (below_alloc (Below.refl _ _) _)⟩
theorem below2 {w w1 w2:World} (h:Below w.heap.size w w1) (g:Below w1.heap.size w1 w2):Below w.heap.size w w2:=h.trans (g.mono h.size)
theorem below_cell {w w1:World} (h:Below w.heap.size w w1) {a:Addr} {v:Value} (g:w.cell? a=some v):w1.cell? a=some v:=(h.cell (World.block_lt_of_cell? w _ g)).trans g
theorem contains_wide (g:Nat) (A:Option Addr) (c:Nat) (l:List S28) (w:World) (hg:w.cell? ⟨g,0,none⟩=some (.slice A l.length c)) (hC:Kd.C k28 w A l.length l) (hne:l≠[]) :
  Calls Tryz.prog 68 #[.slice A l.length c,.func (.func 70) #[] #[.pointer (some ⟨g,0,none⟩)]] w fun e w'=>e=.returned (.bool (wideB l))∧Below w.heap.size w w':=by
 obtain⟨bk,o,F,rfl,hlt,hF,hcells⟩:=vec_place hC hne
 have h0:0<l.length:=List.length_pos_iff.2 hne
 have hv:w.cell? ⟨bk,o,none⟩=some (.int .i64 (l.headD z28).f0):=by
  have:=hcells ⟨0,h0⟩ 0 _ rfl
  simp only[Nat.zero_mul,Nat.add_zero]at this
  rw[this]
  cases l with
  | nil=>exact absurd rfl hne
  | cons x r=>rfl
 refine contains_vec (fun x=>x.f0 != (l.headD z28).f0) 70 #[.pointer (some ⟨g,0,none⟩)] enter70 _ c l w hC hne hC.2.1 ?_
 intro W x hx B d hd hB hW
 exact vectors_2 x.f0 B d x.f1 g bk o l.length c _ W (below_cell hW hg) h0 (below_cell hW hv)
theorem bits_vectors.calls (k:Nat) (a0:Int) (A1:Option Addr) (c1:Nat) (l1:List S28) (r:Int) (w:World) (hr1:Kd.C k28 w A1 l1.length l1) (hc1:l1.length≤c1) (h:bits_vectors.f k a0 l1=some r) :
  Calls Tryz.prog 33 #[.int .i64 a0,.slice A1 l1.length c1] w fun e w'=>e=.returned (.int .i64 r)∧Below w.heap.size w w':=by
 unfold bits_vectors.f at h
 split at h
 ·cases h
 rename_i hne
 obtain⟨b,hb,h⟩:=Option.bind_eq_some_iff.1 h
 have hbox:(w.alloc (.cells #[.slice A1 l1.length c1] 24)).cell? ⟨w.heap.size,0,none⟩=some (.slice A1 l1.length c1):=by go_simp
 have hB0:Below w.heap.size w (w.alloc (.cells #[.slice A1 l1.length c1] 24)):=below_alloc (Below.refl _ _) _
 cases b with
 | false=>
  rw[if_neg X0]at h
  obtain rfl:=Option.some.inj h
  go_enter Tryz.func33,Tryz.ntmps33
  go_wp2_with (go_at_call 68;refine(contains_right k A1 c1 l1 false _ (Kd.C_alloc hr1 _) hne hb).mono ?_;rintro e W1 ⟨rfl,hb1⟩;dsimp only[Bool.not_false])
  go_ret
  exact⟨rfl,below2 hB0 hb1⟩
 | true=>
  rw[if_pos rfl]at h
  by_cases c:a0=41
  ·rw[if_pos c]at h
   obtain rfl:=Option.some.inj h
   subst c
   go_enter Tryz.func33,Tryz.ntmps33
   go_wp2_with (go_at_call 68;refine(contains_right k A1 c1 l1 true _ (Kd.C_alloc hr1 _) hne hb).mono ?_;rintro e W1 ⟨rfl,hb1⟩;dsimp only[Bool.not_true])
   go_ret
   exact⟨rfl,below2 hB0 hb1⟩
  rw[if_neg c]at h
  have cb:(a0 != 41)=true:=by simpa using c
  cases hw:wideB l1 with
  | true=>
   rw[hw,if_pos rfl]at h
   obtain rfl:=Option.some.inj h
   go_enter Tryz.func33,Tryz.ntmps33
   go_wp2_with (first
    | (go_at_call 68;refine(contains_wide w.heap.size A1 c1 l1 _ hbx hC1.out hne).mono ?_;rintro e W2 ⟨rfl,hb2⟩;rw[hw])
    | (go_at_call 68;refine(contains_right k A1 c1 l1 true _ (Kd.C_alloc hr1 _) hne hb).mono ?_;rintro e W1 ⟨rfl,hb1⟩;dsimp only[Bool.not_true];have hbx:=below_cell hb1 hbox;have hC1:=Aside0.mk (Kd.C_below (Kd.C_alloc hr1 _) hb1)))
   go_ret
   exact⟨rfl,below2 (below2 hB0 hb1) hb2⟩
  | false=>
   rw[hw,if_neg X0]at h
   obtain rfl:=Option.some.inj h
   go_enter Tryz.func33,Tryz.ntmps33
   go_wp2_with (first
    | (go_at_call 68;refine(contains_wide w.heap.size A1 c1 l1 _ hbx hC1.out hne).mono ?_;rintro e W2 ⟨rfl,hb2⟩;rw[hw])
    | (go_at_call 68;refine(contains_right k A1 c1 l1 true _ (Kd.C_alloc hr1 _) hne hb).mono ?_;rintro e W1 ⟨rfl,hb1⟩;dsimp only[Bool.not_true];have hbx:=below_cell hb1 hbox;have hC1:=Aside0.mk (Kd.C_below (Kd.C_alloc hr1 _) hb1)))
   go_ret
   exact⟨rfl,below2 (below2 hB0 hb1) hb2⟩
end Go.Proofs.YtncomlmhagaajaaGreat.PBo
end
namespace Go.Proofs.YtncomlmhagaajaaGreat.PBo
open Go.RowKit Go.Proofs.YtncomlmhagaajaaGreatW.PrintWords Go.Proofs.YtncomlmhagaajaaGreatW.PrintLast Go.Proofs.YtncomlmhagaajaaGreatW.PrintMore
open Go.Proofs.YtncomlmhagaajaaGreat.Mine
attribute [local go_sem] max2_int min2_int max_two min_two max_three min_three max_four min_four
mutual
def bits_Holds.j0:Nat→Int→Bool→Int→List Int→Int→List Int→Option (Bool×Int)
 | 0,_,_,_,_,_,_=>none
 | k+1,x0,x15,x798000,x798001,x799000,x799001=>if x15=true then(some (false,50)) else((bits_vectors.f k x0 (([(⟨x798000,x798001⟩:S28),(⟨x799000,x799001⟩:S28)]:List (S28)))).bind fun t802=>(if t802=0 then((bits_u.f k x798000 x798001).bind fun bt803=>((bits_u.f k x799000 x799001).bind fun bt807=>((whole_Cmp.f k bt803.1 bt803.2 bt807.1 bt807.2).bind fun t811=>(if x0≥72 then((bits_s.f k x798000 x798001).bind fun bt812=>((bits_s.f k x799000 x799001).bind fun bt816=>((whole_Cmp.f k bt812.1 bt812.2 bt816.1 bt816.2).bind fun t820=>(bits_Holds.j1 k (wrap64 (x0+(-4))) t820)))) else(bits_Holds.j1 k x0 t811))))) else(some (false,t802))))
def bits_Holds.j1:Nat→Int→Int→Option (Bool×Int)
 | 0,_,_=>none
 | k+1,x0,x9=>if x0=68 then(some (decide (x9<0),0)) else(if x0=69 then(some (decide (x9≤0),0)) else(if x0=70 then(some (decide (x9>0),0)) else(some (decide (x9≥0),0))))
end
def bits_Holds.f (k:Nat) (a0:Int) (a1_0:Int) (l1_1:List Int) (a2_0:Int) (l2_1:List Int):Option (Bool×Int):=if a0<68 then(bits_Holds.j0 k a0 true a1_0 l1_1 a2_0 l2_1) else(bits_Holds.j0 k a0 (decide (a0>75)) a1_0 l1_1 a2_0 l2_1)
theorem bits_Holds.mono_l:∀k,(∀y0 y1 y2 y3 y4 y5,LeO (bits_Holds.j0 k y0 y1 y2 y3 y4 y5) (bits_Holds.j0 (k+1) y0 y1 y2 y3 y4 y5))∧(∀y0 y1,LeO (bits_Holds.j1 k y0 y1) (bits_Holds.j1 (k+1) y0 y1))
 | 0=>⟨fun _ _ _ _ _ _ r h=>by simp[bits_Holds.j0]at h,fun _ _ r h=>by simp[bits_Holds.j1]at h⟩
 | k+1=>by
  obtain⟨ih0,ih1⟩:=bits_Holds.mono_l k
  refine⟨?_,?_⟩
  ·intro y0 y1 y2 y3 y4 y5
   unfold bits_Holds.j0
   repeat' first
   | (with_reducible exact ih0 _ _ _ _ _ _)
   | (with_reducible exact ih1 _ _)
   | (with_reducible exact bits_s.mono _ _ _)
   | (with_reducible exact bits_u.mono _ _ _)
   | (with_reducible exact bits_vectors.mono _ _ _)
   | (with_reducible exact whole_Cmp.mono _ _ _ _ _)
   | (with_reducible exact LeO.refl _)
   | (with_reducible exact LeO.none _)
   | (with_reducible refine LeO.ite ?_ ?_)
   | (with_reducible refine LeO.bind ?_ (fun _=>?_))
   | exact ih0 _ _ _ _ _ _
   | exact ih1 _ _
   | exact bits_s.mono _ _ _
   | exact bits_u.mono _ _ _
   | exact bits_vectors.mono _ _ _
   | exact whole_Cmp.mono _ _ _ _ _
   | exact LeO.none _
   | refine LeO.ite ?_ ?_
   | refine LeO.bind ?_ (fun _=>?_)
  intro y0 y1
  unfold bits_Holds.j1
  repeat' first
  | (with_reducible exact ih0 _ _ _ _ _ _)
  | (with_reducible exact ih1 _ _)
  | (with_reducible exact bits_s.mono _ _ _)
  | (with_reducible exact bits_u.mono _ _ _)
  | (with_reducible exact bits_vectors.mono _ _ _)
  | (with_reducible exact whole_Cmp.mono _ _ _ _ _)
  | (with_reducible exact LeO.refl _)
  | (with_reducible exact LeO.none _)
  | (with_reducible refine LeO.ite ?_ ?_)
  | (with_reducible refine LeO.bind ?_ (fun _=>?_))
  | exact ih0 _ _ _ _ _ _
  | exact ih1 _ _
  | exact bits_s.mono _ _ _
  | exact bits_u.mono _ _ _
  | exact bits_vectors.mono _ _ _
  | exact whole_Cmp.mono _ _ _ _ _
  | exact LeO.none _
  | refine LeO.ite ?_ ?_
  | refine LeO.bind ?_ (fun _=>?_)
theorem bits_Holds.mono:∀a0 a1 a2 a3 a4 k,LeO (bits_Holds.f k a0 a1 a2 a3 a4) (bits_Holds.f (k+1) a0 a1 a2 a3 a4):=by
 intro a0 a1 a2 a3 a4 k
 obtain⟨ih0,ih1⟩:=bits_Holds.mono_l k
 unfold bits_Holds.f
 repeat' first
   | (with_reducible exact ih0 _ _ _ _ _ _)
   | (with_reducible exact ih1 _ _)
   | (with_reducible exact bits_s.mono _ _ _)
   | (with_reducible exact bits_u.mono _ _ _)
   | (with_reducible exact bits_vectors.mono _ _ _)
   | (with_reducible exact whole_Cmp.mono _ _ _ _ _)
   | (with_reducible exact LeO.refl _)
   | (with_reducible exact LeO.none _)
   | (with_reducible refine LeO.ite ?_ ?_)
   | (with_reducible refine LeO.bind ?_ (fun _=>?_))
   | exact ih0 _ _ _ _ _ _
   | exact ih1 _ _
   | exact bits_s.mono _ _ _
   | exact bits_u.mono _ _ _
   | exact bits_vectors.mono _ _ _
   | exact whole_Cmp.mono _ _ _ _ _
   | exact LeO.none _
   | refine LeO.ite ?_ ?_
   | refine LeO.bind ?_ (fun _=>?_)
theorem bits_Holds.calls (k:Nat) (a0:Int) (aj:Int) (P1_1_:Nat→Prop) (ap:Option Addr) (aq:Nat) (af:List Int) (ag:Int) (P2_1_:Nat→Prop) (ar:Option Addr) (au:Nat) (ae:List Int) (r1:Bool) (r2:Int) (w:World) (bz:Kd.V (Kd.int .u64) 48 w w.heap.size (fun k_=>P1_1_ k_) (.slice ap af.length aq) af) (bA:Kd.V (Kd.int .u64) 48 w w.heap.size (fun k_=>P2_1_ k_) (.slice ar ae.length au) ae) (h:bits_Holds.f k a0 aj af ag ae=some (r1,r2)) :
  Calls Tryz.prog 15 #[.int .i64 a0,.agg #[.int .i64 aj,.slice ap af.length aq],.agg #[.int .i64 ag,.slice ar ae.length au]] w fun e w'=>e=.returned (.tuple #[.bool r1,.int .i64 r2])∧Below w.heap.size w w':=by
 have ck:=Tryz.underlying28
 have HO1_1:=Aside0.mk (show Kd.V (Kd.int .u64) 48 w w.heap.size (fun k_=>((P1_1_ k_∨P2_1_ k_)∨w.heap.size≤k_)) (.slice ap af.length aq) af from Kd.V_mono bz (fun k_ hk=>.inl (.inl hk)))
 have HO2_1:=Aside0.mk (show Kd.V (Kd.int .u64) 48 w w.heap.size (fun k_=>((P1_1_ k_∨P2_1_ k_)∨w.heap.size≤k_)) (.slice ar ae.length au) ae from Kd.V_mono bA (fun k_ hk=>.inl (.inr hk)))
 have HB:=Aside0.mk (Below.refl w.heap.size w)
 have H:(if a0<68 then(bits_Holds.j0 k a0 true aj af ag ae) else(bits_Holds.j0 k a0 (decide (a0>75)) aj af ag ae))=some (r1,r2):=h
 clear h
 have HC4:=Aside0.mk H
 clear H
 go_enter Tryz.func15,Tryz.ntmps15
 go_upto_region 1 with(first|(refine gd 4 rfl ?_;refine kbe 4 #[.int .i64 aj,.slice ap af.length aq] 28 ?_;intro ah hg w5 hbox hb;replace HO1_1:=Aside0.mk (Kd.V_below (Kd.V_elderB (kvu HO1_1.out) ah (Nat.le_of_eq hg.symm)) hb);replace HO2_1:=Aside0.mk (Kd.V_below (Kd.V_elderB (kvu HO2_1.out) ah (Nat.le_of_eq hg.symm)) hb);have ac:=Aside0.mk (hbox);have ce:=kbz hg HB;have az:=kbz hg HB;replace HB:=kbs HB hb;clear hb hbox hg)|(refine gd 5 rfl ?_;refine kbe 5 #[.int .i64 ag,.slice ar ae.length au] 28 ?_;intro ai hg w6 hbox hb;replace HO1_1:=Aside0.mk (Kd.V_below (Kd.V_elderB (kvu HO1_1.out) ai (Nat.le_of_eq hg.symm)) hb);replace HO2_1:=Aside0.mk (Kd.V_below (Kd.V_elderB (kvu HO2_1.out) ai (Nat.le_of_eq hg.symm)) hb);have ad:=Aside0.mk (hbox);have cf:=kbz hg HB;have aA:=kbz hg HB;replace HB:=kbs HB hb;have aJ:=knl hg ac;have aK:=kng hg ac;replace ac:=kbb ac hb;clear hb hbox hg))
 (try simp only[Act.put,kss])
 go_cut [15] (fun v15 wc=>∃(kq:Nat) (aL:Bool),v15=.bool aL∧Aside0 (bits_Holds.j0 kq a0 aL aj af ag ae=some (r1,r2))∧Aside0 (kq≤k)∧Aside0 (Kd.V (Kd.int .u64) 48 wc w.heap.size (fun k_=>((P1_1_ k_∨P2_1_ k_)∨w.heap.size≤k_)∧k_≠ah∧k_≠ai) (.slice ap af.length aq) af)∧Aside0 (Kd.V (Kd.int .u64) 48 wc w.heap.size (fun k_=>((P1_1_ k_∨P2_1_ k_)∨w.heap.size≤k_)∧k_≠ah∧k_≠ai) (.slice ar ae.length au) ae)∧Aside0 (wc.heap[ah]? = some (.cells #[.int .i64 aj,(.slice ap af.length aq)] 28 (0,0)))∧Aside0 (wc.heap[ai]? = some (.cells #[.int .i64 ag,(.slice ar ae.length au)] 28 (0,0)))∧Aside0 (Below w.heap.size w wc))
 case first=>
  have H:=HC4.out
  clear HC4
  by_cases c7:a0<68
  ·rw[if_pos c7]at H
   have aE:decide (a0<68)=true:=decide_eq_true c7
   clear c7
   (first|rw[aE]|rw[aX]|(simp only[i64_w,i32_w];rw[aE])|skip)
   have H':=Aside0.mk H
   clear H
   go_wp2
   go_meet
   case rel=>exact⟨_,(true),F0,H',⟨Z5⟩,⟨D5⟩,⟨F5⟩,⟨by(with_reducible repeat (first|refine blk_drewN ?_ _|refine blk_drew ?_|refine blk_alloc ?_ _));exact ac.out⟩,⟨by(with_reducible repeat (first|refine blk_drewN ?_ _|refine blk_drew ?_|refine blk_alloc ?_ _));exact ad.out⟩,⟨by repeat (first|(with_reducible first|exact HB.out|apply below_alloc|apply pw_below_drewN|apply below_drew1|refine below_set ?_ az.out|refine below_set ?_ aA.out)|exact HB.out)⟩⟩
  rw[if_neg c7]at H
  have aE:decide (a0<68)=false:=decide_eq_false c7
  clear c7
  (first|rw[aE]|rw[aX]|(simp only[i64_w,i32_w];rw[aE])|skip)
  have H':=Aside0.mk H
  clear H
  go_wp2
  go_meet
  case rel=>exact⟨_,(decide (a0>75)),F0,H',⟨Z5⟩,⟨D5⟩,⟨F5⟩,⟨by(with_reducible repeat (first|refine blk_drewN ?_ _|refine blk_drew ?_|refine blk_alloc ?_ _));exact ac.out⟩,⟨by(with_reducible repeat (first|refine blk_drewN ?_ _|refine blk_drew ?_|refine blk_alloc ?_ _));exact ad.out⟩,⟨by repeat (first|(with_reducible first|exact HB.out|apply below_alloc|apply pw_below_drewN|apply below_drew1|refine below_set ?_ az.out|refine below_set ?_ aA.out)|exact HB.out)⟩⟩
 case rest=>
  clear HC4
  try clear c1
  try clear c2
  try clear p2
  try clear c7
  try clear aE
  try clear aX
  obtain⟨kq,aL,rfl,HA,HJ3,aa,ab,ac,ad,HB⟩:=hcut
  cases kq with
  | zero=>exact absurd HA.out (by simp[bits_Holds.j0])
  | succ kj3=>
   have H:=HA.out
   clear HA
   simp only[bits_Holds.j0]at H
   by_cases c8:aL=true
   ·subst c8
    have H1:(some (false,50))=some (r1,r2):=by rw[if_pos rfl]at H;exact H
    clear H
    have H:=H1
    clear H1
    simp only[Option.some.injEq,Prod.mk.injEq]at H
    obtain⟨rfl,rfl⟩:=H
    go_wp2
    go_ret2
    exact⟨Z1,by repeat (first|(with_reducible first|exact HB.out|apply below_alloc|apply pw_below_drewN|apply below_drew1|refine below_set ?_ az.out|refine below_set ?_ aA.out)|exact HB.out)⟩
   replace c8:=Bool.eq_false_iff.mpr c8
   subst c8
   have H1:((bits_vectors.f kj3 a0 (([(⟨aj,af⟩:S28),(⟨ag,ae⟩:S28)]:List (S28)))).bind fun aw=>(if aw=0 then((bits_u.f kj3 aj af).bind fun aB=>((bits_u.f kj3 ag ae).bind fun ax=>((whole_Cmp.f kj3 aB.1 aB.2 ax.1 ax.2).bind fun ay=>(if a0≥72 then((bits_s.f kj3 aj af).bind fun an=>((bits_s.f kj3 ag ae).bind fun ak=>((whole_Cmp.f kj3 an.1 an.2 ak.1 ak.2).bind fun av=>(bits_Holds.j1 kj3 (wrap64 (a0+(-4))) av)))) else(bits_Holds.j1 kj3 a0 ay))))) else(some (false,aw))))=some (r1,r2):=by rw[if_neg (show ¬(false=true) by decide)]at H;exact H
   clear H
   have H:=H1
   clear H1
   obtain⟨aN,aH⟩:∃y_:List (S28),y_=(([(⟨aj,af⟩:S28),(⟨ag,ae⟩:S28)]:List (S28))):=⟨_,rfl⟩
   replace H:((bits_vectors.f kj3 a0 aN).bind fun aw=>(if aw=0 then((bits_u.f kj3 aj af).bind fun aB=>((bits_u.f kj3 ag ae).bind fun ax=>((whole_Cmp.f kj3 aB.1 aB.2 ax.1 ax.2).bind fun ay=>(if a0≥72 then((bits_s.f kj3 aj af).bind fun an=>((bits_s.f kj3 ag ae).bind fun ak=>((whole_Cmp.f kj3 an.1 an.2 ak.1 ak.2).bind fun av=>(bits_Holds.j1 kj3 (wrap64 (a0+(-4))) av)))) else(bits_Holds.j1 kj3 a0 ay))))) else(some (false,aw))))=some (r1,r2):=by first|(rw[aH];with_reducible exact H)|(have H2_:=(Option.bind_some _ _).symm.trans H;rw[aH];with_reducible exact H2_)|(have H2_:=(Option.bind_some _ _).symm.trans H;with_reducible exact H2_)|with_reducible exact H|(rw[aH];exact H)|exact H
   have aM:=Aside0.mk aH
   clear aH
   replace H:=Option.bind_eq_some_iff.mp H
   obtain⟨aw,A90,H⟩:=H
   replace H:(if aw=0 then((bits_u.f kj3 aj af).bind fun aB=>((bits_u.f kj3 ag ae).bind fun ax=>((whole_Cmp.f kj3 aB.1 aB.2 ax.1 ax.2).bind fun ay=>(if a0≥72 then((bits_s.f kj3 aj af).bind fun an=>((bits_s.f kj3 ag ae).bind fun ak=>((whole_Cmp.f kj3 an.1 an.2 ak.1 ak.2).bind fun av=>(bits_Holds.j1 kj3 (wrap64 (a0+(-4))) av)))) else(bits_Holds.j1 kj3 a0 ay))))) else(some (false,aw)))=some (r1,r2):=H
   have A9:=Aside0.mk A90
   clear A90
   by_cases c10:aw=0
   ·rw [if_pos c10]at H
    have aZ:(aw==0)=true:=beq_iff_eq.mpr c10
    have bb:(aw != 0)=false:=bne_eq_false_iff_eq.mpr c10
    clear c10
    replace H:=Option.bind_eq_some_iff.mp H
    obtain⟨⟨aO,aP⟩,bl,H⟩:=H
    replace H:((bits_u.f kj3 ag ae).bind fun ax=>((whole_Cmp.f kj3 aO aP ax.1 ax.2).bind fun ay=>(if a0≥72 then((bits_s.f kj3 aj af).bind fun an=>((bits_s.f kj3 ag ae).bind fun ak=>((whole_Cmp.f kj3 an.1 an.2 ak.1 ak.2).bind fun av=>(bits_Holds.j1 kj3 (wrap64 (a0+(-4))) av)))) else(bits_Holds.j1 kj3 a0 ay))))=some (r1,r2):=H
    have A11:=Aside0.mk bl
    clear bl
    replace H:=Option.bind_eq_some_iff.mp H
    obtain⟨⟨aS,aT⟩,bn,H⟩:=H
    replace H:((whole_Cmp.f kj3 aO aP aS aT).bind fun ay=>(if a0≥72 then((bits_s.f kj3 aj af).bind fun an=>((bits_s.f kj3 ag ae).bind fun ak=>((whole_Cmp.f kj3 an.1 an.2 ak.1 ak.2).bind fun av=>(bits_Holds.j1 kj3 (wrap64 (a0+(-4))) av)))) else(bits_Holds.j1 kj3 a0 ay)))=some (r1,r2):=H
    have A12:=Aside0.mk bn
    clear bn
    replace H:=Option.bind_eq_some_iff.mp H
    obtain⟨ay,bo,H⟩:=H
    replace H:(if a0≥72 then((bits_s.f kj3 aj af).bind fun an=>((bits_s.f kj3 ag ae).bind fun ak=>((whole_Cmp.f kj3 an.1 an.2 ak.1 ak.2).bind fun av=>(bits_Holds.j1 kj3 (wrap64 (a0+(-4))) av)))) else(bits_Holds.j1 kj3 a0 ay))=some (r1,r2):=H
    have A13:=Aside0.mk bo
    clear bo
    have aY:=Aside0.mk H
    clear H
    have cg:=aJ.out
    have ch:=aK.out
    have bd:wc.cell? ⟨ah,0,none⟩=some (.int .i64 aj):=(blk_cell ac.out 0).trans rfl
    have be:wc.cell? ⟨ah,1,none⟩=some (.slice ap af.length aq):=(blk_cell ac.out 1).trans rfl
    have bf:=blk_frozen ac.out 0
    have bg:=blk_frozen ac.out 1
    have bh:wc.cell? ⟨ai,0,none⟩=some (.int .i64 ag):=(blk_cell ad.out 0).trans rfl
    have bi:wc.cell? ⟨ai,1,none⟩=some (.slice ar ae.length au):=(blk_cell ad.out 1).trans rfl
    have bj:=blk_frozen ad.out 0
    have bk:=blk_frozen ad.out 1
    try go_wp2_with (first|(refine gd 19 rfl ?_;refine Kd.N_lit k28 _ 28 ?hg (N':=19) ?hd (xs:=([(⟨aj,af⟩:S28),(⟨ag,ae⟩:S28)]:List (S28))) (inner:=[.int .i64 aj,.slice ap af.length aq,.int .i64 ag,.slice ar ae.length au]) (ok:=(fun k_=>((P1_1_ k_∨P2_1_ k_)∨w.heap.size≤k_)∧k_≠ah∧k_≠ai)) (okp:=(fun k_=>((P1_1_ k_∨P2_1_ k_)∨w.heap.size≤k_)∧k_≠ah∧k_≠ai)) ?hr ?hp (fun _ hk=>hk) ((show ∀k_,wc.heap.size≤k_→(fun k_=>((P1_1_ k_∨P2_1_ k_)∨w.heap.size≤k_)∧k_≠ah∧k_≠ai) k_ from fun k_ hk=>⟨(.inr (Nat.le_trans (below_size (khu HB.out)) hk)),Kd.freshB (g:=ah) (o:=.cells #[.int .i64 aj,.slice ap af.length aq] 28 (0,0)) (kbu ac.out) k_ hk,Kd.freshB (g:=ai) (o:=.cells #[.int .i64 ag,.slice ar ae.length au] 28 (0,0)) (kbu ad.out) k_ hk⟩) _ (Nat.le_refl _)) (Below.refl _ _) (Nat.le_refl _) F1 ?_;(case hd=>rfl);(case hg=>rfl);(case hr=>first|(go_simp;done)|(go_simp;rfl));(case hp=>exact(Reps.c2 (show Kd.FK k28 _ _ (⟨aj,af⟩:S28) [.int .i64 aj,.slice ap af.length aq] from(k28_mkF _ _ (⟨aj,af⟩:S28) (Kd.V_reads' (Kd.V_mono (ok':=(fun k_=>((P1_1_ k_∨P2_1_ k_)∨w.heap.size≤k_)∧k_≠ah∧k_≠ai)) (aa.out) (fun k_ hk=>⟨hk.1,⟨hk.2.1,hk.2.2⟩⟩))).2.1 (Kd.V_F (Kd.V_mono (ok':=(fun k_=>((P1_1_ k_∨P2_1_ k_)∨w.heap.size≤k_)∧k_≠ah∧k_≠ai)) (aa.out) (fun k_ hk=>⟨hk.1,⟨hk.2.1,hk.2.2⟩⟩))))) (Reps.c2 (show Kd.FK k28 _ _ (⟨ag,ae⟩:S28) [.int .i64 ag,.slice ar ae.length au] from(k28_mkF _ _ (⟨ag,ae⟩:S28) (Kd.V_reads' (Kd.V_mono (ok':=(fun k_=>((P1_1_ k_∨P2_1_ k_)∨w.heap.size≤k_)∧k_≠ah∧k_≠ai)) (ab.out) (fun k_ hk=>⟨hk.1,⟨hk.2.1,hk.2.2⟩⟩))).2.1 (Kd.V_F (Kd.V_mono (ok':=(fun k_=>((P1_1_ k_∨P2_1_ k_)∨w.heap.size≤k_)∧k_≠ah∧k_≠ai)) (ab.out) (fun k_ hk=>⟨hk.1,⟨hk.2.1,hk.2.2⟩⟩))))) (Reps.none _ _))));intro bH w18 aF hb hg_ hnew_;clear hg_ hnew_;(first|rw[←aM.out]at aF|(simp only[Int.reduceToNat]at aF;rw[←aM.out]at aF));replace aa:=Aside0.mk (Kd.V_elder' (kvu aa.out) (Kd.N_base aF) hb);replace ab:=Aside0.mk (Kd.V_elder' (kvu ab.out) (Kd.N_base aF) hb);have HO801:=Aside0.mk (Kd.N_lower aF (below_size (khu HB.out)));replace ac:=kbb ac hb;replace ad:=kbb ad hb;replace HB:=kbs HB hb;clear hb aF;obtain⟨bI,bJ,bK⟩:=Kd.N_slice HO801.out;subst bK)|((with_reducible refine gate_callee (f:=33) rfl ?_);refine kgl (some 20) rfl rfl Tryz.func33 #[.int .i64 a0,.slice bI aN.length bJ] rfl ?_;(with_reducible refine(bits_vectors.calls kj3 a0 _ _ aN aw _ ?side1 ?side2 A9.out).mono ?_);(case side1=>repeat (first|exact(Kd.N_reads' HO801.out).2.2|(with_reducible refine Kd.C_alloc ?_ _)|(with_reducible refine Kd.C_drewN ?_ _)|(with_reducible refine Kd.C_drew ?_)));(case side2=>exact(Kd.N_reads' HO801.out).2.1);rintro e w21 ⟨rfl,hb⟩;refine⟨_,rfl,?_⟩;replace aa:=kvb aa hb;replace ab:=kvb ab hb;replace HO801:=Aside0.mk (Kd.N_below D1 hb);replace ac:=kbb ac hb;replace ad:=kbb ad hb;replace HB:=kbs HB hb;(try clear hb);(try clear hb2);(try clear hk);(try clear hi)))
    replace aa:=Aside0.mk (Kd.V_drew aa.out);replace ab:=Aside0.mk (Kd.V_drew ab.out);replace HO801:=Aside0.mk (Kd.N_drew HO801.out);replace ac:=Aside0.mk (blk_drew ac.out);replace ad:=Aside0.mk (blk_drew ad.out);replace HB:=Aside0.mk (below_drew1 HB.out)
    refine start_ (n:=6) (S:=fun w'=>w'.cell? ⟨ah,0,none⟩=some (.int .i64 aj)∧w'.cell? ⟨ah,1,none⟩=some (.slice ap af.length aq)∧w'.cell? ⟨ai,0,none⟩=some (.int .i64 ag)∧w'.cell? ⟨ai,1,none⟩=some (.slice ar ae.length au)) (ds:=[]) (bm_ 6 0) Z0 rfl rfl ⟨(blk_cell ac.out 0).trans rfl,(blk_cell ac.out 1).trans rfl,(blk_cell ad.out 0).trans rfl,(blk_cell ad.out 1).trans rfl⟩ (fun hHeld=>?_)
    generalize w21.drew=w22 at aa ab HO801 ac ad HB hHeld ⊢
    refine tk_ 0 24 ?_ (bm_ 6 1) rfl rfl Z0 (fun _ _ _ h=>h) B0 ?_ hHeld ?_ ?_ ?_
    rotate_left
    ·rintro w' ⟨s0,s1,s2,s3⟩
     go_simp
     with_reducible rfl
    rotate_left
    ·simp only[Act.put,kss,i64_w,i32_w]
     rfl
    refine tk_ 2 26 ?_ (bm_ 6 5) rfl rfl Z0 (fun _ _ _ h=>h) B0 ?_ hHeld ?_ ?_ ?_
    rotate_left
    ·rintro w' ⟨s0,s1,s2,s3⟩
     go_simp
     with_reducible rfl
    rotate_left
    ·simp only[Act.put,kss,i64_w,i32_w]
     rfl
    refine one_ (i:=1) (N:=some 25) (bm_ 6 7) rfl rfl Z0 X0 (fun K hK=>?_)
    refine kgo Tryz.func43 #[.agg #[.int .i64 aj,.slice ap af.length aq]] B0 rfl rfl ?_
    with_reducible refine(bits_u.calls kj3 aj _ _ af aO aP _ ?side1 ?side2 A11.out).mono ?_
    (case side1=>repeat (first|exact(Kd.V_reads' aa.out).2.2|(with_reducible refine Kd.C_alloc ?_ _)|(with_reducible refine Kd.C_drewN ?_ _)|(with_reducible refine Kd.C_drew ?_)))
    (case side2=>exact(Kd.V_reads' aa.out).2.1)
    rintro e w23 ⟨cl,rfl,ho0,hb⟩
    refine⟨_,rfl,?_⟩
    replace aa:=Aside0.mk (Kd.V_elder' (kvu aa.out) (Kd.R_base ho0) hb);replace ab:=Aside0.mk (Kd.V_elder' (kvu ab.out) (Kd.R_base ho0) hb);replace HO801:=Aside0.mk (Kd.N_elder' D1 (Kd.R_base ho0) hb);have al:=Aside0.mk (Kd.R_lower (Kd.R_newM (M:=fun k_=>(w.heap.size≤k_)) ho0 (below_size (khu HB.out)) (fun k_ h_=>h_)) (below_size (khu HB.out)));replace ac:=kbb ac hb;replace ad:=kbb ad hb;replace HB:=kbs HB hb
    (try clear hb);(try clear hb2);(try clear hk);(try clear hi);(try clear ho0)
    refine hK.out _ _ ⟨(blk_cell ac.out 0).trans rfl,(blk_cell ac.out 1).trans rfl,(blk_cell ad.out 0).trans rfl,(blk_cell ad.out 1).trans rfl⟩ (fun hHeld=>?_)
    clear hK K
    refine norm_ (a':=?_) ?_ ?_
    rotate_left
    ·show Act.put _ (some 25) _=_
     simp only[Act.put,kss,i64_w,i32_w]
     rfl
    refine one_ (i:=3) (N:=some 27) (bm_ 6 15) rfl rfl Z0 X0 (fun K hK=>?_)
    refine kgo Tryz.func43 #[.agg #[.int .i64 ag,.slice ar ae.length au]] B0 rfl rfl ?_
    with_reducible refine(bits_u.calls kj3 ag _ _ ae aS aT _ ?side1 ?side2 A12.out).mono ?_
    (case side1=>repeat (first|exact(Kd.V_reads' ab.out).2.2|(with_reducible refine Kd.C_alloc ?_ _)|(with_reducible refine Kd.C_drewN ?_ _)|(with_reducible refine Kd.C_drew ?_)))
    (case side2=>exact(Kd.V_reads' ab.out).2.1)
    rintro e w24 ⟨cm,rfl,ho0,hb⟩
    refine⟨_,rfl,?_⟩
    replace aa:=Aside0.mk (Kd.V_elder' (kvu aa.out) (Kd.R_base ho0) hb);replace ab:=Aside0.mk (Kd.V_elder' (kvu ab.out) (Kd.R_base ho0) hb);replace HO801:=Aside0.mk (Kd.N_elder' D1 (Kd.R_base ho0) hb);have ao:=Aside0.mk (Kd.R_lower (Kd.R_new' (Kd.R_newM (M:=fun k_=>(w.heap.size≤k_)) ho0 (below_size (khu HB.out)) (fun k_ h_=>h_)) (Kd.R_lt (kru al.out))) (below_size (khu HB.out)));replace al:=Aside0.mk (Kd.R_elder' (kru al.out) (Kd.R_base ho0) hb);replace ac:=kbb ac hb;replace ad:=kbb ad hb;replace HB:=kbs HB hb
    (try clear hb);(try clear hb2);(try clear hk);(try clear hi);(try clear ho0)
    obtain⟨bL,bM,bp⟩:=Kd.R_slice al.out
    (first|subst bp|(injection bp with f1_ f2_ f3_;have f4_:=f1_.symm;have f5_:=f3_.symm;clear f1_ f2_ f3_;subst f4_;subst f5_))
    obtain⟨bN,bO,bq⟩:=Kd.R_slice ao.out
    (first|subst bq|(injection bq with f1_ f2_ f3_;have f4_:=f1_.symm;have f5_:=f3_.symm;clear f1_ f2_ f3_;subst f4_;subst f5_))
    refine hK.out _ _ ⟨(blk_cell ac.out 0).trans rfl,(blk_cell ac.out 1).trans rfl,(blk_cell ad.out 0).trans rfl,(blk_cell ad.out 1).trans rfl⟩ (fun hHeld=>?_)
    clear hK K
    refine norm_ (a':=?_) ?_ ?_
    rotate_left
    ·show Act.put _ (some 27) _=_
     simp only[Act.put,kss,i64_w,i32_w]
     rfl
    refine one_ (i:=4) (N:=some 28) (bm_ 6 31) rfl rfl Z0 X0 (fun K hK=>?_)
    refine kgo Tryz.func28 #[.agg #[.bool aO,.slice bL aP.length bM],.agg #[.bool aS,.slice bN aT.length bO]] B0 rfl rfl ?_
    with_reducible refine(whole_Cmp.calls kj3 aO _ _ aP aS _ _ aT ay _ ?side1 ?side2 ?side3 ?side4 A13.out).mono ?_
    (case side1=>repeat (first|exact(Kd.R_reads' al.out).2.2|(with_reducible refine Kd.C_alloc ?_ _)|(with_reducible refine Kd.C_drewN ?_ _)|(with_reducible refine Kd.C_drew ?_)))
    (case side2=>exact(Kd.R_reads' al.out).2.1)
    (case side3=>repeat (first|exact(Kd.R_reads' ao.out).2.2|(with_reducible refine Kd.C_alloc ?_ _)|(with_reducible refine Kd.C_drewN ?_ _)|(with_reducible refine Kd.C_drew ?_)))
    (case side4=>exact(Kd.R_reads' ao.out).2.1)
    rintro e w27 ⟨rfl,hb⟩
    refine⟨_,rfl,?_⟩
    replace aa:=kvb aa hb;replace ab:=kvb ab hb;replace HO801:=Aside0.mk (Kd.N_below D1 hb);replace al:=krb al hb;replace ao:=krb ao hb;replace ac:=kbb ac hb;replace ad:=kbb ad hb;replace HB:=kbs HB hb
    (try clear hb);(try clear hb2);(try clear hk);(try clear hi)
    refine hK.out _ _ ⟨(blk_cell ac.out 0).trans rfl,(blk_cell ac.out 1).trans rfl,(blk_cell ad.out 0).trans rfl,(blk_cell ad.out 1).trans rfl⟩ (fun hHeld=>?_)
    clear hK K
    refine norm_ (a':=?_) ?_ ?_
    rotate_left
    ·show Act.put _ (some 28) _=_
     simp only[Act.put,kss,i64_w,i32_w]
     rfl
    refine pu_ 5 9 ?_ (bm_ 6 63) rfl rfl Z0 (fun _ _ _ h=>h) B0 ?_ ?_ ?_ ?_
    rotate_left
    ·intro w'
     go_simp
     with_reducible rfl
    rotate_left
    ·simp only[Act.put,kss,i64_w,i32_w]
     rfl
    refine done_ Z0 ?_
    go_upto_if 30 with(fail)
    go_cut [0,9] (fun v0 v9 wc=>∃(kq:Nat) (am:Int) (aU:Int),v0=.int .i64 am∧v9=.int .i64 aU∧Aside0 (bits_Holds.j1 kq am aU=some (r1,r2))∧Aside0 (kq≤kj3)∧Aside0 (Kd.V (Kd.int .u64) 48 wc w.heap.size (fun k_=>((P1_1_ k_∨P2_1_ k_)∨w.heap.size≤k_)∧k_≠ah∧k_≠ai) (.slice ap af.length aq) af)∧Aside0 (Kd.V (Kd.int .u64) 48 wc w.heap.size (fun k_=>((P1_1_ k_∨P2_1_ k_)∨w.heap.size≤k_)∧k_≠ah∧k_≠ai) (.slice ar ae.length au) ae)∧Aside0 (wc.heap[ah]? = some (.cells #[.int .i64 aj,(.slice ap af.length aq)] 28 (0,0)))∧Aside0 (wc.heap[ai]? = some (.cells #[.int .i64 ag,(.slice ar ae.length au)] 28 (0,0)))∧Aside0 (Below w.heap.size w wc))
    case first=>
     have H:=aY.out
     clear aY
     by_cases c28:a0≥72
     ·rw[if_pos c28]at H
      have aD:decide (72≤a0)=true:=decide_eq_true c28
      clear c28
      (first|rw[aD]|rw[bc]|(simp only[i64_w,i32_w];rw[aD])|skip)
      replace H:=Option.bind_eq_some_iff.mp H
      obtain⟨⟨aQ,aR⟩,br,H⟩:=H
      replace H:((bits_s.f kj3 ag ae).bind fun ak=>((whole_Cmp.f kj3 aQ aR ak.1 ak.2).bind fun av=>(bits_Holds.j1 kj3 (wrap64 (a0+(-4))) av)))=some (r1,r2):=H
      have A29:=Aside0.mk br
      clear br
      replace H:=Option.bind_eq_some_iff.mp H
      obtain⟨⟨aV,aW⟩,bu,H⟩:=H
      replace H:((whole_Cmp.f kj3 aQ aR aV aW).bind fun av=>(bits_Holds.j1 kj3 (wrap64 (a0+(-4))) av))=some (r1,r2):=H
      have A30:=Aside0.mk bu
      clear bu
      replace H:=Option.bind_eq_some_iff.mp H
      obtain⟨av,bv,H⟩:=H
      replace H:(bits_Holds.j1 kj3 (wrap64 (a0+(-4))) av)=some (r1,r2):=H
      have A31:=Aside0.mk bv
      clear bv
      have H':=Aside0.mk H
      clear H
      try go_wp2
      replace aa:=Aside0.mk (Kd.V_drew aa.out);replace ab:=Aside0.mk (Kd.V_drew ab.out);replace HO801:=Aside0.mk (Kd.N_drew HO801.out);replace al:=Aside0.mk (Kd.R_drew al.out);replace ao:=Aside0.mk (Kd.R_drew ao.out);replace ac:=Aside0.mk (blk_drew ac.out);replace ad:=Aside0.mk (blk_drew ad.out);replace HB:=Aside0.mk (below_drew1 HB.out)
      refine start_ (n:=6) (S:=fun w'=>w'.cell? ⟨ah,0,none⟩=some (.int .i64 aj)∧w'.cell? ⟨ah,1,none⟩=some (.slice ap af.length aq)∧w'.cell? ⟨ai,0,none⟩=some (.int .i64 ag)∧w'.cell? ⟨ai,1,none⟩=some (.slice ar ae.length au)) (ds:=[]) (bm_ 6 0) Z0 rfl rfl ⟨(blk_cell ac.out 0).trans rfl,(blk_cell ac.out 1).trans rfl,(blk_cell ad.out 0).trans rfl,(blk_cell ad.out 1).trans rfl⟩ (fun hHeld=>?_)
      generalize w27.drew=w32 at aa ab HO801 al ao ac ad HB hHeld ⊢
      refine tk_ 0 31 ?_ (bm_ 6 1) rfl rfl Z0 (fun _ _ _ h=>h) B0 ?_ hHeld ?_ ?_ ?_
      rotate_left
      ·rintro w' ⟨s0,s1,s2,s3⟩
       go_simp
       with_reducible rfl
      rotate_left
      ·simp only[Act.put,kss,i64_w,i32_w]
       rfl
      refine tk_ 2 33 ?_ (bm_ 6 5) rfl rfl Z0 (fun _ _ _ h=>h) B0 ?_ hHeld ?_ ?_ ?_
      rotate_left
      ·rintro w' ⟨s0,s1,s2,s3⟩
       go_simp
       with_reducible rfl
      rotate_left
      ·simp only[Act.put,kss,i64_w,i32_w]
       rfl
      refine one_ (i:=1) (N:=some 32) (bm_ 6 7) rfl rfl Z0 X0 (fun K hK=>?_)
      refine kgo Tryz.func44 #[.agg #[.int .i64 aj,.slice ap af.length aq]] B0 rfl rfl ?_
      with_reducible refine(bits_s.calls kj3 aj _ _ af aQ aR _ ?side1 ?side2 A29.out).mono ?_
      (case side1=>repeat (first|exact(Kd.V_reads' aa.out).2.2|(with_reducible refine Kd.C_alloc ?_ _)|(with_reducible refine Kd.C_drewN ?_ _)|(with_reducible refine Kd.C_drew ?_)))
      (case side2=>exact(Kd.V_reads' aa.out).2.1)
      rintro e w33 ⟨cn,rfl,ho0,hb⟩
      refine⟨_,rfl,?_⟩
      replace aa:=Aside0.mk (Kd.V_elder' (kvu aa.out) (Kd.R_base ho0) hb);replace ab:=Aside0.mk (Kd.V_elder' (kvu ab.out) (Kd.R_base ho0) hb);replace HO801:=Aside0.mk (Kd.N_elder' D1 (Kd.R_base ho0) hb);have aC:=Aside0.mk (Kd.R_lower (Kd.R_new' (Kd.R_new' (Kd.R_newM (M:=fun k_=>(w.heap.size≤k_)) ho0 (below_size (khu HB.out)) (fun k_ h_=>h_)) (Kd.R_lt (kru al.out))) (Kd.R_lt (kru ao.out))) (below_size (khu HB.out)));replace al:=Aside0.mk (Kd.R_elder' (kru al.out) (Kd.R_base ho0) hb);replace ao:=Aside0.mk (Kd.R_elder' (kru ao.out) (Kd.R_base ho0) hb);replace ac:=kbb ac hb;replace ad:=kbb ad hb;replace HB:=kbs HB hb
      (try clear hb);(try clear hb2);(try clear hk);(try clear hi);(try clear ho0)
      refine hK.out _ _ ⟨(blk_cell ac.out 0).trans rfl,(blk_cell ac.out 1).trans rfl,(blk_cell ad.out 0).trans rfl,(blk_cell ad.out 1).trans rfl⟩ (fun hHeld=>?_)
      clear hK K
      refine norm_ (a':=?_) ?_ ?_
      rotate_left
      ·show Act.put _ (some 32) _=_
       simp only[Act.put,kss,i64_w,i32_w]
       rfl
      refine one_ (i:=3) (N:=some 34) (bm_ 6 15) rfl rfl Z0 X0 (fun K hK=>?_)
      refine kgo Tryz.func44 #[.agg #[.int .i64 ag,.slice ar ae.length au]] B0 rfl rfl ?_
      with_reducible refine(bits_s.calls kj3 ag _ _ ae aV aW _ ?side1 ?side2 A30.out).mono ?_
      (case side1=>repeat (first|exact(Kd.V_reads' ab.out).2.2|(with_reducible refine Kd.C_alloc ?_ _)|(with_reducible refine Kd.C_drewN ?_ _)|(with_reducible refine Kd.C_drew ?_)))
      (case side2=>exact(Kd.V_reads' ab.out).2.1)
      rintro e w34 ⟨co,rfl,ho0,hb⟩
      refine⟨_,rfl,?_⟩
      replace aa:=Aside0.mk (Kd.V_elder' (kvu aa.out) (Kd.R_base ho0) hb);replace ab:=Aside0.mk (Kd.V_elder' (kvu ab.out) (Kd.R_base ho0) hb);replace HO801:=Aside0.mk (Kd.N_elder' D1 (Kd.R_base ho0) hb);have aI:=Aside0.mk (Kd.R_lower (Kd.R_new' (Kd.R_new' (Kd.R_new' (Kd.R_newM (M:=fun k_=>(w.heap.size≤k_)) ho0 (below_size (khu HB.out)) (fun k_ h_=>h_)) (Kd.R_lt (kru al.out))) (Kd.R_lt (kru ao.out))) (Kd.R_lt (kru aC.out))) (below_size (khu HB.out)));replace al:=Aside0.mk (Kd.R_elder' (kru al.out) (Kd.R_base ho0) hb);replace ao:=Aside0.mk (Kd.R_elder' (kru ao.out) (Kd.R_base ho0) hb);replace aC:=Aside0.mk (Kd.R_elder' (kru aC.out) (Kd.R_base ho0) hb);replace ac:=kbb ac hb;replace ad:=kbb ad hb;replace HB:=kbs HB hb
      (try clear hb);(try clear hb2);(try clear hk);(try clear hi);(try clear ho0)
      obtain⟨bP,bQ,bw⟩:=Kd.R_slice aC.out
      (first|subst bw|(injection bw with f1_ f2_ f3_;have f4_:=f1_.symm;have f5_:=f3_.symm;clear f1_ f2_ f3_;subst f4_;subst f5_))
      obtain⟨bR,bS,bx⟩:=Kd.R_slice aI.out
      (first|subst bx|(injection bx with f1_ f2_ f3_;have f4_:=f1_.symm;have f5_:=f3_.symm;clear f1_ f2_ f3_;subst f4_;subst f5_))
      refine hK.out _ _ ⟨(blk_cell ac.out 0).trans rfl,(blk_cell ac.out 1).trans rfl,(blk_cell ad.out 0).trans rfl,(blk_cell ad.out 1).trans rfl⟩ (fun hHeld=>?_)
      clear hK K
      refine norm_ (a':=?_) ?_ ?_
      rotate_left
      ·show Act.put _ (some 34) _=_
       simp only[Act.put,kss,i64_w,i32_w]
       rfl
      refine one_ (i:=4) (N:=some 35) (bm_ 6 31) rfl rfl Z0 X0 (fun K hK=>?_)
      refine kgo Tryz.func28 #[.agg #[.bool aQ,.slice bP aR.length bQ],.agg #[.bool aV,.slice bR aW.length bS]] B0 rfl rfl ?_
      with_reducible refine(whole_Cmp.calls kj3 aQ _ _ aR aV _ _ aW av _ ?side1 ?side2 ?side3 ?side4 A31.out).mono ?_
      (case side1=>repeat (first|exact(Kd.R_reads' aC.out).2.2|(with_reducible refine Kd.C_alloc ?_ _)|(with_reducible refine Kd.C_drewN ?_ _)|(with_reducible refine Kd.C_drew ?_)))
      (case side2=>exact(Kd.R_reads' aC.out).2.1)
      (case side3=>repeat (first|exact(Kd.R_reads' aI.out).2.2|(with_reducible refine Kd.C_alloc ?_ _)|(with_reducible refine Kd.C_drewN ?_ _)|(with_reducible refine Kd.C_drew ?_)))
      (case side4=>exact(Kd.R_reads' aI.out).2.1)
      rintro e w37 ⟨rfl,hb⟩
      refine⟨_,rfl,?_⟩
      replace aa:=kvb aa hb;replace ab:=kvb ab hb;replace HO801:=Aside0.mk (Kd.N_below D1 hb);replace al:=krb al hb;replace ao:=krb ao hb;replace aC:=krb aC hb;replace aI:=krb aI hb;replace ac:=kbb ac hb;replace ad:=kbb ad hb;replace HB:=kbs HB hb
      (try clear hb);(try clear hb2);(try clear hk);(try clear hi)
      refine hK.out _ _ ⟨(blk_cell ac.out 0).trans rfl,(blk_cell ac.out 1).trans rfl,(blk_cell ad.out 0).trans rfl,(blk_cell ad.out 1).trans rfl⟩ (fun hHeld=>?_)
      clear hK K
      refine norm_ (a':=?_) ?_ ?_
      rotate_left
      ·show Act.put _ (some 35) _=_
       simp only[Act.put,kss,i64_w,i32_w]
       rfl
      refine pu_ 5 9 ?_ (bm_ 6 63) rfl rfl Z0 (fun _ _ _ h=>h) B0 ?_ ?_ ?_ ?_
      rotate_left
      ·intro w'
       go_simp
       with_reducible rfl
      rotate_left
      ·simp only[Act.put,kss,i64_w,i32_w]
       rfl
      refine done_ Z0 ?_
      try go_wp2
      go_meet
      case rel=>exact⟨_,(wrap64 (a0+(-4))),(av),F0,F0,H',⟨by have:=HJ3.out;first|omega|exact Nat.le_refl _⟩,⟨by(with_reducible repeat (first|apply Kd.V_alloc|apply Kd.V_drewN|apply Kd.V_drew));exact Kd.V_mono aa.out (fun _ hk=>⟨hk.1.1.1.1.1.1,⟨hk.1.1.1.1.1.2.1,hk.1.1.1.1.1.2.2⟩⟩)⟩,⟨by(with_reducible repeat (first|apply Kd.V_alloc|apply Kd.V_drewN|apply Kd.V_drew));exact Kd.V_mono ab.out (fun _ hk=>⟨hk.1.1.1.1.1.1,⟨hk.1.1.1.1.1.2.1,hk.1.1.1.1.1.2.2⟩⟩)⟩,⟨by(with_reducible repeat (first|refine blk_drewN ?_ _|refine blk_drew ?_|refine blk_alloc ?_ _));exact ac.out⟩,⟨by(with_reducible repeat (first|refine blk_drewN ?_ _|refine blk_drew ?_|refine blk_alloc ?_ _));exact ad.out⟩,⟨by repeat (first|(with_reducible first|exact HB.out|apply below_alloc|apply pw_below_drewN|apply below_drew1|refine below_set ?_ az.out|refine below_set ?_ aA.out)|exact HB.out)⟩⟩
     rw[if_neg c28]at H
     have aD:decide (72≤a0)=false:=decide_eq_false c28
     clear c28
     (first|rw[aD]|rw[bc]|(simp only[i64_w,i32_w];rw[aD])|skip)
     have H':=Aside0.mk H
     clear H
     go_wp2
     go_meet
     case rel=>exact⟨_,(a0),(ay),F0,F0,H',⟨by have:=HJ3.out;first|omega|exact Nat.le_refl _⟩,⟨by(with_reducible repeat (first|apply Kd.V_alloc|apply Kd.V_drewN|apply Kd.V_drew));exact Kd.V_mono aa.out (fun _ hk=>⟨hk.1.1.1.1,⟨hk.1.1.1.2.1,hk.1.1.1.2.2⟩⟩)⟩,⟨by(with_reducible repeat (first|apply Kd.V_alloc|apply Kd.V_drewN|apply Kd.V_drew));exact Kd.V_mono ab.out (fun _ hk=>⟨hk.1.1.1.1,⟨hk.1.1.1.2.1,hk.1.1.1.2.2⟩⟩)⟩,⟨by(with_reducible repeat (first|refine blk_drewN ?_ _|refine blk_drew ?_|refine blk_alloc ?_ _));exact ac.out⟩,⟨by(with_reducible repeat (first|refine blk_drewN ?_ _|refine blk_drew ?_|refine blk_alloc ?_ _));exact ad.out⟩,⟨by repeat (first|(with_reducible first|exact HB.out|apply below_alloc|apply pw_below_drewN|apply below_drew1|refine below_set ?_ az.out|refine below_set ?_ aA.out)|exact HB.out)⟩⟩
    case rest=>
     clear aY
     try clear c1
     try clear c2
     try clear p2
     try clear c3
     try clear c4
     try clear p6
     try clear c7
     try clear aE
     try clear aX
     try clear c8
     try clear c10
     try clear aZ
     try clear bb
     try clear c15
     try clear c28
     try clear aD
     try clear bc
     try clear c33
     try clear bd
     try clear be
     try clear bh
     try clear bi
     try clear bf
     try clear bg
     try clear bj
     try clear bk
     try clear p2
     obtain⟨kq,am,aU,rfl,rfl,HA,cp,aa,ab,ac,ad,HB⟩:=hcut
     cases kq with
     | zero=>exact absurd HA.out (by simp[bits_Holds.j1])
     | succ cq=>
      have H:=HA.out
      clear HA
      simp only[bits_Holds.j1]at H
      by_cases c38:am=68
      ·rw[if_pos c38]at H
       have bB:(am==68)=true:=beq_iff_eq.mpr c38
       have bC:(am != 68)=false:=bne_eq_false_iff_eq.mpr c38
       clear c38
       simp only[Option.some.injEq,Prod.mk.injEq]at H
       obtain⟨rfl,rfl⟩:=H
       go_wp2
       go_ret2
       exact⟨Z1,by repeat (first|(with_reducible first|exact HB.out|apply below_alloc|apply pw_below_drewN|apply below_drew1|refine below_set ?_ az.out|refine below_set ?_ aA.out)|exact HB.out)⟩
      rw[if_neg c38]at H
      have bB:(am==68)=false:=beq_eq_false_iff_ne.mpr c38
      have bC:(am != 68)=true:=bne_iff_ne.mpr c38
      by_cases c39:am=69
      ·rw[if_pos c39]at H
       have bD:(am==69)=true:=beq_iff_eq.mpr c39
       have bE:(am != 69)=false:=bne_eq_false_iff_eq.mpr c39
       clear c39
       simp only[Option.some.injEq,Prod.mk.injEq]at H
       obtain⟨rfl,rfl⟩:=H
       go_wp2
       go_ret2
       exact⟨Z1,by repeat (first|(with_reducible first|exact HB.out|apply below_alloc|apply pw_below_drewN|apply below_drew1|refine below_set ?_ az.out|refine below_set ?_ aA.out)|exact HB.out)⟩
      rw[if_neg c39]at H
      have bD:(am==69)=false:=beq_eq_false_iff_ne.mpr c39
      have bE:(am != 69)=true:=bne_iff_ne.mpr c39
      by_cases c40:am=70
      ·rw[if_pos c40]at H
       have bF:(am==70)=true:=beq_iff_eq.mpr c40
       have bG:(am != 70)=false:=bne_eq_false_iff_eq.mpr c40
       clear c40
       simp only[Option.some.injEq,Prod.mk.injEq]at H
       obtain⟨rfl,rfl⟩:=H
       go_wp2
       go_ret2
       exact⟨Z1,by repeat (first|(with_reducible first|exact HB.out|apply below_alloc|apply pw_below_drewN|apply below_drew1|refine below_set ?_ az.out|refine below_set ?_ aA.out)|exact HB.out)⟩
      rw[if_neg c40]at H
      have bF:(am==70)=false:=beq_eq_false_iff_ne.mpr c40
      have bG:(am != 70)=true:=bne_iff_ne.mpr c40
      simp only[Option.some.injEq,Prod.mk.injEq]at H
      obtain⟨rfl,rfl⟩:=H
      go_wp2
      go_ret2
      exact⟨Z1,by repeat (first|(with_reducible first|exact HB.out|apply below_alloc|apply pw_below_drewN|apply below_drew1|refine below_set ?_ az.out|refine below_set ?_ aA.out)|exact HB.out)⟩
   rw[if_neg c10]at H
   have aZ:(aw==0)=false:=beq_eq_false_iff_ne.mpr c10
   have bb:(aw != 0)=true:=bne_iff_ne.mpr c10
   simp only[Option.some.injEq,Prod.mk.injEq]at H
   obtain⟨rfl,rfl⟩:=H
   have ci:=aJ.out
   have cj:=aK.out
   have bW:wc.cell? ⟨ah,0,none⟩=some (.int .i64 aj):=(blk_cell ac.out 0).trans rfl
   have bX:wc.cell? ⟨ah,1,none⟩=some (.slice ap af.length aq):=(blk_cell ac.out 1).trans rfl
   have bY:=blk_frozen ac.out 0
   have bZ:=blk_frozen ac.out 1
   have ca:wc.cell? ⟨ai,0,none⟩=some (.int .i64 ag):=(blk_cell ad.out 0).trans rfl
   have cb:wc.cell? ⟨ai,1,none⟩=some (.slice ar ae.length au):=(blk_cell ad.out 1).trans rfl
   have cc:=blk_frozen ad.out 0
   have cd:=blk_frozen ad.out 1
   go_wp2_with (first|(refine gd 19 rfl ?_;refine Kd.N_lit k28 _ 28 ?hg (N':=19) ?hd (xs:=([(⟨aj,af⟩:S28),(⟨ag,ae⟩:S28)]:List (S28))) (inner:=[.int .i64 aj,.slice ap af.length aq,.int .i64 ag,.slice ar ae.length au]) (ok:=(fun k_=>((P1_1_ k_∨P2_1_ k_)∨w.heap.size≤k_)∧k_≠ah∧k_≠ai)) (okp:=(fun k_=>((P1_1_ k_∨P2_1_ k_)∨w.heap.size≤k_)∧k_≠ah∧k_≠ai)) ?hr ?hp (fun _ hk=>hk) ((show ∀k_,wc.heap.size≤k_→(fun k_=>((P1_1_ k_∨P2_1_ k_)∨w.heap.size≤k_)∧k_≠ah∧k_≠ai) k_ from fun k_ hk=>⟨(.inr (Nat.le_trans (below_size (khu HB.out)) hk)),Kd.freshB (g:=ah) (o:=.cells #[.int .i64 aj,.slice ap af.length aq] 28 (0,0)) (kbu ac.out) k_ hk,Kd.freshB (g:=ai) (o:=.cells #[.int .i64 ag,.slice ar ae.length au] 28 (0,0)) (kbu ad.out) k_ hk⟩) _ (Nat.le_refl _)) (Below.refl _ _) (Nat.le_refl _) F1 ?_;(case hd=>rfl);(case hg=>rfl);(case hr=>first|(go_simp;done)|(go_simp;rfl));(case hp=>exact(Reps.c2 (show Kd.FK k28 _ _ (⟨aj,af⟩:S28) [.int .i64 aj,.slice ap af.length aq] from(k28_mkF _ _ (⟨aj,af⟩:S28) (Kd.V_reads' (Kd.V_mono (ok':=(fun k_=>((P1_1_ k_∨P2_1_ k_)∨w.heap.size≤k_)∧k_≠ah∧k_≠ai)) (aa.out) (fun k_ hk=>⟨hk.1,⟨hk.2.1,hk.2.2⟩⟩))).2.1 (Kd.V_F (Kd.V_mono (ok':=(fun k_=>((P1_1_ k_∨P2_1_ k_)∨w.heap.size≤k_)∧k_≠ah∧k_≠ai)) (aa.out) (fun k_ hk=>⟨hk.1,⟨hk.2.1,hk.2.2⟩⟩))))) (Reps.c2 (show Kd.FK k28 _ _ (⟨ag,ae⟩:S28) [.int .i64 ag,.slice ar ae.length au] from(k28_mkF _ _ (⟨ag,ae⟩:S28) (Kd.V_reads' (Kd.V_mono (ok':=(fun k_=>((P1_1_ k_∨P2_1_ k_)∨w.heap.size≤k_)∧k_≠ah∧k_≠ai)) (ab.out) (fun k_ hk=>⟨hk.1,⟨hk.2.1,hk.2.2⟩⟩))).2.1 (Kd.V_F (Kd.V_mono (ok':=(fun k_=>((P1_1_ k_∨P2_1_ k_)∨w.heap.size≤k_)∧k_≠ah∧k_≠ai)) (ab.out) (fun k_ hk=>⟨hk.1,⟨hk.2.1,hk.2.2⟩⟩))))) (Reps.none _ _))));intro bH w44 aG hb hg_ hnew_;clear hg_ hnew_;(first|rw[←aM.out]at aG|(simp only[Int.reduceToNat]at aG;rw[←aM.out]at aG));replace aa:=Aside0.mk (Kd.V_elder' (kvu aa.out) (Kd.N_base aG) hb);replace ab:=Aside0.mk (Kd.V_elder' (kvu ab.out) (Kd.N_base aG) hb);have HO801:=Aside0.mk (Kd.N_lower aG (below_size (khu HB.out)));replace ac:=kbb ac hb;replace ad:=kbb ad hb;replace HB:=kbs HB hb;clear hb aG;obtain⟨bT,bU,bV⟩:=Kd.N_slice HO801.out;subst bV)|((with_reducible refine gate_callee (f:=33) rfl ?_);refine kgl (some 20) rfl rfl Tryz.func33 #[.int .i64 a0,.slice bT aN.length bU] rfl ?_;(with_reducible refine(bits_vectors.calls kj3 a0 _ _ aN aw _ ?side1 ?side2 A9.out).mono ?_);(case side1=>repeat (first|exact(Kd.N_reads' HO801.out).2.2|(with_reducible refine Kd.C_alloc ?_ _)|(with_reducible refine Kd.C_drewN ?_ _)|(with_reducible refine Kd.C_drew ?_)));(case side2=>exact(Kd.N_reads' HO801.out).2.1);rintro e w47 ⟨rfl,hb⟩;refine⟨_,rfl,?_⟩;replace aa:=kvb aa hb;replace ab:=kvb ab hb;replace HO801:=Aside0.mk (Kd.N_below D1 hb);replace ac:=kbb ac hb;replace ad:=kbb ad hb;replace HB:=kbs HB hb;(try clear hb);(try clear hb2);(try clear hk);(try clear hi)))
   go_ret2
   exact⟨Z1,by repeat (first|(with_reducible first|exact HB.out|apply below_alloc|apply pw_below_drewN|apply below_drew1|refine below_set ?_ az.out|refine below_set ?_ aA.out)|exact HB.out)⟩
mutual
def tribunalref09_Same.j0:Nat→Bool→Int→List Int→Int→List Int→Option (Bool)
 | 0,_,_,_,_,_=>none
 | k+1,x19,x745000,x745001,x746000,x746001=>if x19=true then(some false) else(tribunalref09_Same.l0 k 0 x745000 x745001 x746000 x746001)
def tribunalref09_Same.l0:Nat→Int→Int→List Int→Int→List Int→Option (Bool)
 | 0,_,_,_,_,_=>none
 | k+1,x5,x745000,x745001,x746000,x746001=>if x5<(x745001.length:Int) then(if 0≤x5 then(if x5<(x746001.length:Int) then(if(rd x745001 x5)=(rd x746001 x5) then(tribunalref09_Same.l0 k (wrap64 (x5+1)) x745000 x745001 x746000 x746001) else(some false)) else(none)) else(none)) else(some true)
end
def tribunalref09_Same.f (k:Nat) (a0_0:Int) (l0_1:List Int) (a1_0:Int) (l1_1:List Int):Option (Bool):=if a0_0=a1_0 then(tribunalref09_Same.j0 k ((l0_1.length:Int) != (l1_1.length:Int)) a0_0 l0_1 a1_0 l1_1) else(tribunalref09_Same.j0 k true a0_0 l0_1 a1_0 l1_1)
theorem tribunalref09_Same.mono_l:∀k,(∀y0 y1 y2 y3 y4,LeO (tribunalref09_Same.j0 k y0 y1 y2 y3 y4) (tribunalref09_Same.j0 (k+1) y0 y1 y2 y3 y4))∧(∀y0 y1 y2 y3 y4,LeO (tribunalref09_Same.l0 k y0 y1 y2 y3 y4) (tribunalref09_Same.l0 (k+1) y0 y1 y2 y3 y4))
 | 0=>⟨fun _ _ _ _ _ r h=>by simp[tribunalref09_Same.j0]at h,fun _ _ _ _ _ r h=>by simp[tribunalref09_Same.l0]at h⟩
 | k+1=>by
  obtain⟨ih0,ih1⟩:=tribunalref09_Same.mono_l k
  refine⟨?_,?_⟩
  ·intro y0 y1 y2 y3 y4
   unfold tribunalref09_Same.j0
   repeat' first
   | (with_reducible exact ih0 _ _ _ _ _)
   | (with_reducible exact ih1 _ _ _ _ _)
   | (with_reducible exact LeO.refl _)
   | (with_reducible exact LeO.none _)
   | (with_reducible refine LeO.ite ?_ ?_)
   | (with_reducible refine LeO.bind ?_ (fun _=>?_))
   | exact ih0 _ _ _ _ _
   | exact ih1 _ _ _ _ _
   | exact LeO.none _
   | refine LeO.ite ?_ ?_
   | refine LeO.bind ?_ (fun _=>?_)
  intro y0 y1 y2 y3 y4
  unfold tribunalref09_Same.l0
  repeat' first
  | (with_reducible exact ih0 _ _ _ _ _)
  | (with_reducible exact ih1 _ _ _ _ _)
  | (with_reducible exact LeO.refl _)
  | (with_reducible exact LeO.none _)
  | (with_reducible refine LeO.ite ?_ ?_)
  | (with_reducible refine LeO.bind ?_ (fun _=>?_))
  | exact ih0 _ _ _ _ _
  | exact ih1 _ _ _ _ _
  | exact LeO.none _
  | refine LeO.ite ?_ ?_
  | refine LeO.bind ?_ (fun _=>?_)
theorem tribunalref09_Same.mono:∀a0 a1 a2 a3 k,LeO (tribunalref09_Same.f k a0 a1 a2 a3) (tribunalref09_Same.f (k+1) a0 a1 a2 a3):=by
 intro a0 a1 a2 a3 k
 obtain⟨ih0,ih1⟩:=tribunalref09_Same.mono_l k
 unfold tribunalref09_Same.f
 repeat' first
   | (with_reducible exact ih0 _ _ _ _ _)
   | (with_reducible exact ih1 _ _ _ _ _)
   | (with_reducible exact LeO.refl _)
   | (with_reducible exact LeO.none _)
   | (with_reducible refine LeO.ite ?_ ?_)
   | (with_reducible refine LeO.bind ?_ (fun _=>?_))
   | exact ih0 _ _ _ _ _
   | exact ih1 _ _ _ _ _
   | exact LeO.none _
   | refine LeO.ite ?_ ?_
   | refine LeO.bind ?_ (fun _=>?_)
theorem tribunalref09_Same.calls (k:Nat) (af:Int) (an:Option Addr) (ao:Nat) (ac:List Int) (ag:Int) (ar:Option Addr) (au:Nat) (ae:List Int) (r:Bool) (w:World) (aU:Kd.C (Kd.int .u64) w an ac.length ac) (aV:ac.length≤ao) (aW:Kd.C (Kd.int .u64) w ar ae.length ae) (aX:ae.length≤au) (h:tribunalref09_Same.f k af ac ag ae=some r) :
  Calls Tryz.prog 13 #[.agg #[.int .i64 af,.slice an ac.length ao],.agg #[.int .i64 ag,.slice ar ae.length au]] w fun e w'=>e=.returned (.bool r)∧Below w.heap.size w w':=by
 have bS:=Tryz.underlying28
 have aY:=Aside0.mk aU
 have bG:=Aside0.mk aV
 clear aU aV
 have aZ:=Aside0.mk aW
 have bH:=Aside0.mk aX
 clear aW aX
 have HB:=Aside0.mk (Below.refl w.heap.size w)
 have H:(if af=ag then(tribunalref09_Same.j0 k ((ac.length:Int) != (ae.length:Int)) af ac ag ae) else(tribunalref09_Same.j0 k true af ac ag ae))=some r:=h
 clear h
 have HC3:=Aside0.mk H
 clear H
 go_enter Tryz.func13,Tryz.ntmps13
 go_upto_region 1 with(first|(refine gd 2 rfl ?_;(try(refine gate_guard B0 ?_;dsimp only));refine kbe 2 #[.int .i64 af,.slice an ac.length ao] 28 ?_;intro ah hg w4 hbox hb;have aa:=Aside0.mk (hbox);have bb:=kbz hg HB;have ap:=kbz hg HB;replace HB:=kbs HB hb;clear hb hbox hg)|(refine gd 3 rfl ?_;(try(refine gate_guard B0 ?_;dsimp only));refine kbe 3 #[.int .i64 ag,.slice ar ae.length au] 28 ?_;intro ak hg w5 hbox hb;have ad:=Aside0.mk (hbox);have bc:=kbz hg HB;have aq:=kbz hg HB;replace HB:=kbs HB hb;have ai:=knl hg aa;have aj:=kng hg aa;replace aa:=kbb aa hb;clear hb hbox hg))
 repeat (go_quiet (first|(refine gd 2 rfl ?_;(try(refine gate_guard B0 ?_;dsimp only));refine kbe 2 #[.int .i64 af,.slice an ac.length ao] 28 ?_;intro ah hg w4 hbox hb;have aa:=Aside0.mk (hbox);have bb:=kbz hg HB;have ap:=kbz hg HB;replace HB:=kbs HB hb;clear hb hbox hg)|(refine gd 3 rfl ?_;(try(refine gate_guard B0 ?_;dsimp only));refine kbe 3 #[.int .i64 ag,.slice ar ae.length au] 28 ?_;intro ak hg w5 hbox hb;have ad:=Aside0.mk (hbox);have bc:=kbz hg HB;have aq:=kbz hg HB;replace HB:=kbs HB hb;have ai:=knl hg aa;have aj:=kng hg aa;replace aa:=kbb aa hb;clear hb hbox hg));go_upto_region 1 with(first|(refine gd 2 rfl ?_;(try(refine gate_guard B0 ?_;dsimp only));refine kbe 2 #[.int .i64 af,.slice an ac.length ao] 28 ?_;intro ah hg w4 hbox hb;have aa:=Aside0.mk (hbox);have bb:=kbz hg HB;have ap:=kbz hg HB;replace HB:=kbs HB hb;clear hb hbox hg)|(refine gd 3 rfl ?_;(try(refine gate_guard B0 ?_;dsimp only));refine kbe 3 #[.int .i64 ag,.slice ar ae.length au] 28 ?_;intro ak hg w5 hbox hb;have ad:=Aside0.mk (hbox);have bc:=kbz hg HB;have aq:=kbz hg HB;replace HB:=kbs HB hb;have ai:=knl hg aa;have aj:=kng hg aa;replace aa:=kbb aa hb;clear hb hbox hg)))
 (try simp only[Act.put,kss])
 go_cut [19] (fun v19 wc=>∃(kq:Nat) (aA:Bool),v19=.bool aA∧Aside0 (tribunalref09_Same.j0 kq aA af ac ag ae=some r)∧Aside0 (kq≤k)∧Aside0 (wc.heap[ah]? = some (.cells #[.int .i64 af,(.slice an ac.length ao)] 28 (0,0)))∧Aside0 (wc.heap[ak]? = some (.cells #[.int .i64 ag,(.slice ar ae.length au)] 28 (0,0)))∧Aside0 (Below w.heap.size w wc))
 case first=>
  have H:=HC3.out
  clear HC3
  by_cases c6:af=ag
  ·rw[if_pos c6]at H
   have av:(af==ag)=true:=beq_iff_eq.mpr c6
   have aB:(af != ag)=false:=bne_eq_false_iff_eq.mpr c6
   clear c6
   (first|rw[av]|rw[aB]|(simp only[i64_w,i32_w];rw[av])|skip)
   have H':=Aside0.mk H
   clear H
   have bT:=ai.out
   have bU:=aj.out
   have aK:w5.cell? ⟨ah,0,none⟩=some (.int .i64 af):=(blk_cell aa.out 0).trans rfl
   have aL:w5.cell? ⟨ah,1,none⟩=some (.slice an ac.length ao):=(blk_cell aa.out 1).trans rfl
   have aM:=blk_frozen aa.out 0
   have aN:=blk_frozen aa.out 1
   have aO:w5.cell? ⟨ak,0,none⟩=some (.int .i64 ag):=(blk_cell ad.out 0).trans rfl
   have aP:w5.cell? ⟨ak,1,none⟩=some (.slice ar ae.length au):=(blk_cell ad.out 1).trans rfl
   have aQ:=blk_frozen ad.out 0
   have aR:=blk_frozen ad.out 1
   go_wp2
   repeat (go_quiet (fail);try go_wp2)
   go_meet
   case rel=>exact⟨_,(((ac.length:Int) != (ae.length:Int))),F0,H',⟨Z5⟩,⟨by(with_reducible repeat (first|refine blk_drewN ?_ _|refine blk_drew ?_|refine blk_alloc ?_ _));exact aa.out⟩,⟨by(with_reducible repeat (first|refine blk_drewN ?_ _|refine blk_drew ?_|refine blk_alloc ?_ _));exact ad.out⟩,⟨by repeat (first|(with_reducible first|exact HB.out|apply below_alloc|apply pw_below_drewN|apply below_drew1|refine below_set ?_ ap.out|refine below_set ?_ aq.out)|exact HB.out)⟩⟩
  rw[if_neg c6]at H
  have av:(af==ag)=false:=beq_eq_false_iff_ne.mpr c6
  have aB:(af != ag)=true:=bne_iff_ne.mpr c6
  (first|rw[av]|rw[aB]|(simp only[i64_w,i32_w];rw[av])|skip)
  have H':=Aside0.mk H
  clear H
  have bI:=ai.out
  have bJ:=aj.out
  have aC:w5.cell? ⟨ah,0,none⟩=some (.int .i64 af):=(blk_cell aa.out 0).trans rfl
  have aD:w5.cell? ⟨ah,1,none⟩=some (.slice an ac.length ao):=(blk_cell aa.out 1).trans rfl
  have aE:=blk_frozen aa.out 0
  have aF:=blk_frozen aa.out 1
  have aG:w5.cell? ⟨ak,0,none⟩=some (.int .i64 ag):=(blk_cell ad.out 0).trans rfl
  have aH:w5.cell? ⟨ak,1,none⟩=some (.slice ar ae.length au):=(blk_cell ad.out 1).trans rfl
  have aI:=blk_frozen ad.out 0
  have aJ:=blk_frozen ad.out 1
  go_wp2
  repeat (go_quiet (fail);try go_wp2)
  go_meet
  case rel=>exact⟨_,(true),F0,H',⟨Z5⟩,⟨by(with_reducible repeat (first|refine blk_drewN ?_ _|refine blk_drew ?_|refine blk_alloc ?_ _));exact aa.out⟩,⟨by(with_reducible repeat (first|refine blk_drewN ?_ _|refine blk_drew ?_|refine blk_alloc ?_ _));exact ad.out⟩,⟨by repeat (first|(with_reducible first|exact HB.out|apply below_alloc|apply pw_below_drewN|apply below_drew1|refine below_set ?_ ap.out|refine below_set ?_ aq.out)|exact HB.out)⟩⟩
 case rest=>
  clear HC3
  try clear c1
  try clear p2
  try clear c6
  try clear av
  try clear aB
  try clear c7
  try clear c10
  try clear aC
  try clear aD
  try clear aG
  try clear aH
  try clear aK
  try clear aL
  try clear aO
  try clear aP
  try clear aE
  try clear aF
  try clear aI
  try clear aJ
  try clear aM
  try clear aN
  try clear aQ
  try clear aR
  obtain⟨kq,aA,rfl,HA,HJ2,aa,ad,HB⟩:=hcut
  cases kq with
  | zero=>exact absurd HA.out (by simp[tribunalref09_Same.j0])
  | succ kj2=>
   have H:=HA.out
   clear HA
   simp only[tribunalref09_Same.j0]at H
   by_cases c13:aA=true
   ·subst c13
    have H1:(some false)=some r:=by rw[if_pos rfl]at H;exact H
    clear H
    have H:=H1
    clear H1
    obtain rfl:=Option.some.inj H
    go_wp2
    repeat (go_quiet (fail);try go_wp2)
    go_ret
    exact⟨Z1,by repeat (first|(with_reducible first|exact HB.out|apply below_alloc|apply pw_below_drewN|apply below_drew1|refine below_set ?_ ap.out|refine below_set ?_ aq.out)|exact HB.out)⟩
   replace c13:=Bool.eq_false_iff.mpr c13
   subst c13
   have H1:(tribunalref09_Same.l0 kj2 0 af ac ag ae)=some r:=by rw[if_neg (show ¬(false=true) by decide)]at H;exact H
   clear H
   have H:=H1
   clear H1
   have H':=Aside0.mk H
   clear H
   go_wp2
   repeat (go_quiet (fail);try go_wp2)
   go_loopg [5] kj2 (fun kq v5 w'=>∃(ab:Int),v5=.int .i64 ab∧Aside0 (tribunalref09_Same.l0 kq ab af ac ag ae=some r)∧Aside0 (kq≤kj2)∧Aside0 (w'.heap[ah]? = some (.cells #[.int .i64 af,(.slice an ac.length ao)] 28 (0,0)))∧Aside0 (w'.heap[ak]? = some (.cells #[.int .i64 ag,(.slice ar ae.length au)] 28 (0,0)))∧Aside0 (Below w.heap.size w w'))
   case atStart=>exact⟨(0),F0,H',⟨Nat.le_refl _⟩,⟨by(with_reducible repeat (first|refine blk_drewN ?_ _|refine blk_drew ?_|refine blk_alloc ?_ _));exact aa.out⟩,⟨by(with_reducible repeat (first|refine blk_drewN ?_ _|refine blk_drew ?_|refine blk_alloc ?_ _));exact ad.out⟩,⟨by repeat (first|(with_reducible first|exact HB.out|apply below_alloc|apply pw_below_drewN|apply below_drew1|refine below_set ?_ ap.out|refine below_set ?_ aq.out)|exact HB.out)⟩⟩
   case round=>
    clear H'
    try clear c1
    try clear p2
    try clear c6
    try clear av
    try clear aB
    try clear c7
    try clear c10
    try clear c13
    try clear aC
    try clear aD
    try clear aG
    try clear aH
    try clear aK
    try clear aL
    try clear aO
    try clear aP
    try clear aE
    try clear aF
    try clear aI
    try clear aJ
    try clear aM
    try clear aN
    try clear aQ
    try clear aR
    try clear p2
    obtain⟨ab,rfl,HA,HK2,aa,ad,HB⟩:=hrel
    cases gk with
    | zero=>exact absurd HA.out (by simp[tribunalref09_Same.l0])
    | succ k2=>
     have H:=HA.out
     clear HA
     simp only[tribunalref09_Same.l0]at H
     by_cases c14:ab<(ac.length:Int)
     ·rw [if_pos c14]at H
      have bd:decide (ab<(ac.length:Int))=true:=decide_eq_true c14
      clear c14
      by_cases c15:0≤ab
      ·rw[if_pos c15]at H
       have bK:decide (0≤ab)=true:=decide_eq_true c15
       clear c15
       by_cases c16:ab<(ae.length:Int)
       ·rw[if_pos c16]at H
        have bL:decide (ab<(ae.length:Int))=true:=decide_eq_true c16
        clear c16
        by_cases c17:(rd ac ab)=(rd ae ab)
        ·rw[if_pos c17]at H
         have be:((rd ac ab)==(rd ae ab))=true:=beq_iff_eq.mpr c17
         have bf:((rd ac ab) != (rd ae ab))=false:=bne_eq_false_iff_eq.mpr c17
         clear c17
         have H':=Aside0.mk H
         clear H
         have bM:=ai.out
         have bN:=aj.out
         have bi:wr.cell? ⟨ah,0,none⟩=some (.int .i64 af):=(blk_cell aa.out 0).trans rfl
         have bj:wr.cell? ⟨ah,1,none⟩=some (.slice an ac.length ao):=(blk_cell aa.out 1).trans rfl
         have bk:=blk_frozen aa.out 0
         have bl:=blk_frozen aa.out 1
         have aw:0≤(ab:Int):=of_decide_eq_true ‹_›
         have ax:ab<(ac.length:Int):=of_decide_eq_true ‹_›
         obtain⟨bg,aS,al⟩:=Kd.at_int aY.out ab aw ax
         cases aS
         replace al:=(HB.out.cell (World.block_lt_of_cell? w _ al)).trans al
         replace aw:=eq_true aw
         replace ax:=eq_true ax
         have bn:wr.cell? ⟨ak,0,none⟩=some (.int .i64 ag):=(blk_cell ad.out 0).trans rfl
         have bo:wr.cell? ⟨ak,1,none⟩=some (.slice ar ae.length au):=(blk_cell ad.out 1).trans rfl
         have bp:=blk_frozen ad.out 0
         have bq:=blk_frozen ad.out 1
         have ay:0≤(ab:Int):=of_decide_eq_true ‹_›
         have az:ab<(ae.length:Int):=of_decide_eq_true ‹_›
         obtain⟨bh,aT,am⟩:=Kd.at_int aZ.out ab ay az
         cases aT
         replace am:=(HB.out.cell (World.block_lt_of_cell? w _ am)).trans am
         replace ay:=eq_true ay
         replace az:=eq_true az
         go_wp2
         repeat (go_quiet (fail);try go_wp2)
         go_roundg k2
         case measure=>have:=HJ2.out;have:=HK2.out;omega
         case rel=>exact⟨(wrap64 (ab+1)),F0,H',⟨D6⟩,⟨by(with_reducible repeat (first|refine blk_drewN ?_ _|refine blk_drew ?_|refine blk_alloc ?_ _));exact aa.out⟩,⟨by(with_reducible repeat (first|refine blk_drewN ?_ _|refine blk_drew ?_|refine blk_alloc ?_ _));exact ad.out⟩,⟨by repeat (first|(with_reducible first|exact HB.out|apply below_alloc|apply pw_below_drewN|apply below_drew1|refine below_set ?_ ap.out|refine below_set ?_ aq.out)|exact HB.out)⟩⟩
        rw[if_neg c17]at H
        have be:((rd ac ab)==(rd ae ab))=false:=beq_eq_false_iff_ne.mpr c17
        have bf:((rd ac ab) != (rd ae ab))=true:=bne_iff_ne.mpr c17
        obtain rfl:=Option.some.inj H
        have bO:=ai.out
        have bP:=aj.out
        have br:wr.cell? ⟨ah,0,none⟩=some (.int .i64 af):=(blk_cell aa.out 0).trans rfl
        have bu:wr.cell? ⟨ah,1,none⟩=some (.slice an ac.length ao):=(blk_cell aa.out 1).trans rfl
        have bv:=blk_frozen aa.out 0
        have bw:=blk_frozen aa.out 1
        have aw:0≤(ab:Int):=of_decide_eq_true ‹_›
        have ax:ab<(ac.length:Int):=of_decide_eq_true ‹_›
        obtain⟨bg,aS,al⟩:=Kd.at_int aY.out ab aw ax
        cases aS
        replace al:=(HB.out.cell (World.block_lt_of_cell? w _ al)).trans al
        replace aw:=eq_true aw
        replace ax:=eq_true ax
        have bx:wr.cell? ⟨ak,0,none⟩=some (.int .i64 ag):=(blk_cell ad.out 0).trans rfl
        have bz:wr.cell? ⟨ak,1,none⟩=some (.slice ar ae.length au):=(blk_cell ad.out 1).trans rfl
        have bA:=blk_frozen ad.out 0
        have bB:=blk_frozen ad.out 1
        have ay:0≤(ab:Int):=of_decide_eq_true ‹_›
        have az:ab<(ae.length:Int):=of_decide_eq_true ‹_›
        obtain⟨bh,aT,am⟩:=Kd.at_int aZ.out ab ay az
        cases aT
        replace am:=(HB.out.cell (World.block_lt_of_cell? w _ am)).trans am
        replace ay:=eq_true ay
        replace az:=eq_true az
        go_wp2
        repeat (go_quiet (fail);try go_wp2)
        go_ret
        exact⟨Z1,by repeat (first|(with_reducible first|exact HB.out|apply below_alloc|apply pw_below_drewN|apply below_drew1|refine below_set ?_ ap.out|refine below_set ?_ aq.out)|exact HB.out)⟩
       rw[if_neg c16]at H
       exact absurd H F1
      rw[if_neg c15]at H
      exact absurd H F1
     rw[if_neg c14]at H
     have bd:decide (ab<(ac.length:Int))=false:=decide_eq_false c14
     clear c14
     obtain rfl:=Option.some.inj H
     have bQ:=ai.out
     have bR:=aj.out
     have bC:wr.cell? ⟨ah,0,none⟩=some (.int .i64 af):=(blk_cell aa.out 0).trans rfl
     have bD:wr.cell? ⟨ah,1,none⟩=some (.slice an ac.length ao):=(blk_cell aa.out 1).trans rfl
     have bE:=blk_frozen aa.out 0
     have bF:=blk_frozen aa.out 1
     go_wp2
     repeat (go_quiet (fail);try go_wp2)
     go_ret
     exact⟨Z1,by repeat (first|(with_reducible first|exact HB.out|apply below_alloc|apply pw_below_drewN|apply below_drew1|refine below_set ?_ ap.out|refine below_set ?_ aq.out)|exact HB.out)⟩
mutual
def bits_Div64.j2:Nat→Int→Int→Int→Int→Int→Int→Int→Int→Option (Int×Int)
 | 0,_,_,_,_,_,_,_,_=>none
 | k+1,x2,x8,x9,x10,x11,x13,x14,x15=>if x9=0 then(none) else(bits_Div64.l1 k x2 x8 x9 x10 x14 x15 (IntKind.u64.wrap ((IntKind.u64.wrap ((IntKind.u64.wrap ((IntKind.u64.wrap (x11*4294967296))+x13))-(IntKind.u64.wrap (x15*x2))))-(IntKind.u64.wrap ((IntKind.u64.wrap (Int.tdiv (IntKind.u64.wrap ((IntKind.u64.wrap ((IntKind.u64.wrap (x11*4294967296))+x13))-(IntKind.u64.wrap (x15*x2)))) x9))*x9)))) (IntKind.u64.wrap ((IntKind.u64.wrap ((IntKind.u64.wrap (x11*4294967296))+x13))-(IntKind.u64.wrap (x15*x2)))) (IntKind.u64.wrap (Int.tdiv (IntKind.u64.wrap ((IntKind.u64.wrap ((IntKind.u64.wrap (x11*4294967296))+x13))-(IntKind.u64.wrap (x15*x2)))) x9)))
def bits_Div64.l1:Nat→Int→Int→Int→Int→Int→Int→Int→Int→Int→Option (Int×Int)
 | 0,_,_,_,_,_,_,_,_,_=>none
 | k+1,x2,x8,x9,x10,x14,x15,x16,x17,x18=>if x18≥4294967296 then(bits_Div64.j4 k x2 x8 x9 x10 x14 x15 x16 x17 x18 true) else(bits_Div64.j4 k x2 x8 x9 x10 x14 x15 x16 x17 x18 (decide ((IntKind.u64.wrap (x18*x10))>(IntKind.u64.wrap ((IntKind.u64.wrap (4294967296*x16))+x14)))))
def bits_Div64.j4:Nat→Int→Int→Int→Int→Int→Int→Int→Int→Int→Bool→Option (Int×Int)
 | 0,_,_,_,_,_,_,_,_,_,_=>none
 | k+1,x2,x8,x9,x10,x14,x15,x16,x17,x18,x113=>if x113=true then(if(IntKind.u64.wrap (x16+x9))≥4294967296 then(if 0≤x8 then(some (IntKind.u64.wrap ((IntKind.u64.wrap (x15*4294967296))+(IntKind.u64.wrap (x18-1))),shr .u64 (IntKind.u64.wrap ((IntKind.u64.wrap ((IntKind.u64.wrap (x17*4294967296))+x14))-(IntKind.u64.wrap ((IntKind.u64.wrap (x18-1))*x2)))) x8)) else(none)) else(bits_Div64.l1 k x2 x8 x9 x10 x14 x15 (IntKind.u64.wrap (x16+x9)) x17 (IntKind.u64.wrap (x18-1)))) else(if 0≤x8 then(some (IntKind.u64.wrap ((IntKind.u64.wrap (x15*4294967296))+x18),shr .u64 (IntKind.u64.wrap ((IntKind.u64.wrap ((IntKind.u64.wrap (x17*4294967296))+x14))-(IntKind.u64.wrap (x18*x2)))) x8)) else(none))
def bits_Div64.l0:Nat→Int→Int→Int→Int→Int→Int→Int→Int→Int→Option (Int×Int)
 | 0,_,_,_,_,_,_,_,_,_=>none
 | k+1,x2,x8,x9,x10,x11,x13,x14,x15,x16=>if x15≥4294967296 then(bits_Div64.j1 k x2 x8 x9 x10 x11 x13 x14 x15 x16 true) else(bits_Div64.j1 k x2 x8 x9 x10 x11 x13 x14 x15 x16 (decide ((IntKind.u64.wrap (x15*x10))>(IntKind.u64.wrap ((IntKind.u64.wrap (4294967296*x16))+x13)))))
def bits_Div64.j1:Nat→Int→Int→Int→Int→Int→Int→Int→Int→Int→Bool→Option (Int×Int)
 | 0,_,_,_,_,_,_,_,_,_,_=>none
 | k+1,x2,x8,x9,x10,x11,x13,x14,x15,x16,x78=>if x78=true then(if(IntKind.u64.wrap (x16+x9))≥4294967296 then(bits_Div64.j2 k x2 x8 x9 x10 x11 x13 x14 (IntKind.u64.wrap (x15-1))) else(bits_Div64.l0 k x2 x8 x9 x10 x11 x13 x14 (IntKind.u64.wrap (x15-1)) (IntKind.u64.wrap (x16+x9)))) else(bits_Div64.j2 k x2 x8 x9 x10 x11 x13 x14 x15)
end
def bits_Div64.f (k:Nat) (a0:Int) (a1:Int) (a2:Int):Option (Int×Int):=if a2=0 then(none) else(if a2≤a0 then(none) else(if a0=0 then(some (IntKind.u64.wrap (Int.tdiv a1 a2),Int.tmod a1 a2)) else((bits_LeadingZeros64.f a2).bind fun t158=>(if 0≤(IntKind.u64.wrap (t158)) then(if 0≤(IntKind.u64.wrap (64-(IntKind.u64.wrap (t158)))) then(if((shl .u64 a2 (IntKind.u64.wrap (t158)))/4294967296)=0 then(none) else(bits_Div64.l0 k (shl .u64 a2 (IntKind.u64.wrap (t158))) (IntKind.u64.wrap (t158)) ((shl .u64 a2 (IntKind.u64.wrap (t158)))/4294967296) (Go.bits .and .u64 (shl .u64 a2 (IntKind.u64.wrap (t158))) 4294967295) (Go.bits .or .u64 (shl .u64 a0 (IntKind.u64.wrap (t158))) (shr .u64 a1 (IntKind.u64.wrap (64-(IntKind.u64.wrap (t158)))))) ((shl .u64 a1 (IntKind.u64.wrap (t158)))/4294967296) (Go.bits .and .u64 (shl .u64 a1 (IntKind.u64.wrap (t158))) 4294967295) (IntKind.u64.wrap (Int.tdiv (Go.bits .or .u64 (shl .u64 a0 (IntKind.u64.wrap (t158))) (shr .u64 a1 (IntKind.u64.wrap (64-(IntKind.u64.wrap (t158)))))) ((shl .u64 a2 (IntKind.u64.wrap (t158)))/4294967296))) (IntKind.u64.wrap ((Go.bits .or .u64 (shl .u64 a0 (IntKind.u64.wrap (t158))) (shr .u64 a1 (IntKind.u64.wrap (64-(IntKind.u64.wrap (t158))))))-(IntKind.u64.wrap ((IntKind.u64.wrap (Int.tdiv (Go.bits .or .u64 (shl .u64 a0 (IntKind.u64.wrap (t158))) (shr .u64 a1 (IntKind.u64.wrap (64-(IntKind.u64.wrap (t158)))))) ((shl .u64 a2 (IntKind.u64.wrap (t158)))/4294967296)))*((shl .u64 a2 (IntKind.u64.wrap (t158)))/4294967296))))))) else(none)) else(none)))))
theorem bits_Div64.mono_l:∀k,(∀y0 y1 y2 y3 y4 y5 y6 y7,LeO (bits_Div64.j2 k y0 y1 y2 y3 y4 y5 y6 y7) (bits_Div64.j2 (k+1) y0 y1 y2 y3 y4 y5 y6 y7))∧(∀y0 y1 y2 y3 y4 y5 y6 y7 y8,LeO (bits_Div64.l1 k y0 y1 y2 y3 y4 y5 y6 y7 y8) (bits_Div64.l1 (k+1) y0 y1 y2 y3 y4 y5 y6 y7 y8))∧(∀y0 y1 y2 y3 y4 y5 y6 y7 y8 y9,LeO (bits_Div64.j4 k y0 y1 y2 y3 y4 y5 y6 y7 y8 y9) (bits_Div64.j4 (k+1) y0 y1 y2 y3 y4 y5 y6 y7 y8 y9))∧(∀y0 y1 y2 y3 y4 y5 y6 y7 y8,LeO (bits_Div64.l0 k y0 y1 y2 y3 y4 y5 y6 y7 y8) (bits_Div64.l0 (k+1) y0 y1 y2 y3 y4 y5 y6 y7 y8))∧(∀y0 y1 y2 y3 y4 y5 y6 y7 y8 y9,LeO (bits_Div64.j1 k y0 y1 y2 y3 y4 y5 y6 y7 y8 y9) (bits_Div64.j1 (k+1) y0 y1 y2 y3 y4 y5 y6 y7 y8 y9))
 | 0=>⟨fun _ _ _ _ _ _ _ _ r h=>by simp[bits_Div64.j2]at h,fun _ _ _ _ _ _ _ _ _ r h=>by simp[bits_Div64.l1]at h,fun _ _ _ _ _ _ _ _ _ _ r h=>by simp[bits_Div64.j4]at h,fun _ _ _ _ _ _ _ _ _ r h=>by simp[bits_Div64.l0]at h,fun _ _ _ _ _ _ _ _ _ _ r h=>by simp[bits_Div64.j1]at h⟩
 | k+1=>by
  obtain⟨ih0,ih1,ih2,ih3,ih4⟩:=bits_Div64.mono_l k
  refine⟨?_,?_,?_,?_,?_⟩
  ·intro y0 y1 y2 y3 y4 y5 y6 y7
   unfold bits_Div64.j2
   repeat' first
   | (with_reducible exact ih0 _ _ _ _ _ _ _ _)
   | (with_reducible exact ih1 _ _ _ _ _ _ _ _ _)
   | (with_reducible exact ih2 _ _ _ _ _ _ _ _ _ _)
   | (with_reducible exact ih3 _ _ _ _ _ _ _ _ _)
   | (with_reducible exact ih4 _ _ _ _ _ _ _ _ _ _)
   | (with_reducible exact LeO.refl _)
   | (with_reducible exact LeO.none _)
   | (with_reducible refine LeO.ite ?_ ?_)
   | (with_reducible refine LeO.bind ?_ (fun _=>?_))
   | exact ih0 _ _ _ _ _ _ _ _
   | exact ih1 _ _ _ _ _ _ _ _ _
   | exact ih2 _ _ _ _ _ _ _ _ _ _
   | exact ih3 _ _ _ _ _ _ _ _ _
   | exact ih4 _ _ _ _ _ _ _ _ _ _
   | exact LeO.none _
   | refine LeO.ite ?_ ?_
   | refine LeO.bind ?_ (fun _=>?_)
  ·intro y0 y1 y2 y3 y4 y5 y6 y7 y8
   unfold bits_Div64.l1
   repeat' first
   | (with_reducible exact ih0 _ _ _ _ _ _ _ _)
   | (with_reducible exact ih1 _ _ _ _ _ _ _ _ _)
   | (with_reducible exact ih2 _ _ _ _ _ _ _ _ _ _)
   | (with_reducible exact ih3 _ _ _ _ _ _ _ _ _)
   | (with_reducible exact ih4 _ _ _ _ _ _ _ _ _ _)
   | (with_reducible exact LeO.refl _)
   | (with_reducible exact LeO.none _)
   | (with_reducible refine LeO.ite ?_ ?_)
   | (with_reducible refine LeO.bind ?_ (fun _=>?_))
   | exact ih0 _ _ _ _ _ _ _ _
   | exact ih1 _ _ _ _ _ _ _ _ _
   | exact ih2 _ _ _ _ _ _ _ _ _ _
   | exact ih3 _ _ _ _ _ _ _ _ _
   | exact ih4 _ _ _ _ _ _ _ _ _ _
   | exact LeO.none _
   | refine LeO.ite ?_ ?_
   | refine LeO.bind ?_ (fun _=>?_)
  ·intro y0 y1 y2 y3 y4 y5 y6 y7 y8 y9
   unfold bits_Div64.j4
   repeat' first
   | (with_reducible exact ih0 _ _ _ _ _ _ _ _)
   | (with_reducible exact ih1 _ _ _ _ _ _ _ _ _)
   | (with_reducible exact ih2 _ _ _ _ _ _ _ _ _ _)
   | (with_reducible exact ih3 _ _ _ _ _ _ _ _ _)
   | (with_reducible exact ih4 _ _ _ _ _ _ _ _ _ _)
   | (with_reducible exact LeO.refl _)
   | (with_reducible exact LeO.none _)
   | (with_reducible refine LeO.ite ?_ ?_)
   | (with_reducible refine LeO.bind ?_ (fun _=>?_))
   | exact ih0 _ _ _ _ _ _ _ _
   | exact ih1 _ _ _ _ _ _ _ _ _
   | exact ih2 _ _ _ _ _ _ _ _ _ _
   | exact ih3 _ _ _ _ _ _ _ _ _
   | exact ih4 _ _ _ _ _ _ _ _ _ _
   | exact LeO.none _
   | refine LeO.ite ?_ ?_
   | refine LeO.bind ?_ (fun _=>?_)
  ·intro y0 y1 y2 y3 y4 y5 y6 y7 y8
   unfold bits_Div64.l0
   repeat' first
   | (with_reducible exact ih0 _ _ _ _ _ _ _ _)
   | (with_reducible exact ih1 _ _ _ _ _ _ _ _ _)
   | (with_reducible exact ih2 _ _ _ _ _ _ _ _ _ _)
   | (with_reducible exact ih3 _ _ _ _ _ _ _ _ _)
   | (with_reducible exact ih4 _ _ _ _ _ _ _ _ _ _)
   | (with_reducible exact LeO.refl _)
   | (with_reducible exact LeO.none _)
   | (with_reducible refine LeO.ite ?_ ?_)
   | (with_reducible refine LeO.bind ?_ (fun _=>?_))
   | exact ih0 _ _ _ _ _ _ _ _
   | exact ih1 _ _ _ _ _ _ _ _ _
   | exact ih2 _ _ _ _ _ _ _ _ _ _
   | exact ih3 _ _ _ _ _ _ _ _ _
   | exact ih4 _ _ _ _ _ _ _ _ _ _
   | exact LeO.none _
   | refine LeO.ite ?_ ?_
   | refine LeO.bind ?_ (fun _=>?_)
  intro y0 y1 y2 y3 y4 y5 y6 y7 y8 y9
  unfold bits_Div64.j1
  repeat' first
  | (with_reducible exact ih0 _ _ _ _ _ _ _ _)
  | (with_reducible exact ih1 _ _ _ _ _ _ _ _ _)
  | (with_reducible exact ih2 _ _ _ _ _ _ _ _ _ _)
  | (with_reducible exact ih3 _ _ _ _ _ _ _ _ _)
  | (with_reducible exact ih4 _ _ _ _ _ _ _ _ _ _)
  | (with_reducible exact LeO.refl _)
  | (with_reducible exact LeO.none _)
  | (with_reducible refine LeO.ite ?_ ?_)
  | (with_reducible refine LeO.bind ?_ (fun _=>?_))
  | exact ih0 _ _ _ _ _ _ _ _
  | exact ih1 _ _ _ _ _ _ _ _ _
  | exact ih2 _ _ _ _ _ _ _ _ _ _
  | exact ih3 _ _ _ _ _ _ _ _ _
  | exact ih4 _ _ _ _ _ _ _ _ _ _
  | exact LeO.none _
  | refine LeO.ite ?_ ?_
  | refine LeO.bind ?_ (fun _=>?_)
theorem bits_Div64.mono:∀a0 a1 a2 k,LeO (bits_Div64.f k a0 a1 a2) (bits_Div64.f (k+1) a0 a1 a2):=by
 intro a0 a1 a2 k
 obtain⟨ih0,ih1,ih2,ih3,ih4⟩:=bits_Div64.mono_l k
 unfold bits_Div64.f
 repeat' first
   | (with_reducible exact ih0 _ _ _ _ _ _ _ _)
   | (with_reducible exact ih1 _ _ _ _ _ _ _ _ _)
   | (with_reducible exact ih2 _ _ _ _ _ _ _ _ _ _)
   | (with_reducible exact ih3 _ _ _ _ _ _ _ _ _)
   | (with_reducible exact ih4 _ _ _ _ _ _ _ _ _ _)
   | (with_reducible exact LeO.refl _)
   | (with_reducible exact LeO.none _)
   | (with_reducible refine LeO.ite ?_ ?_)
   | (with_reducible refine LeO.bind ?_ (fun _=>?_))
   | exact ih0 _ _ _ _ _ _ _ _
   | exact ih1 _ _ _ _ _ _ _ _ _
   | exact ih2 _ _ _ _ _ _ _ _ _ _
   | exact ih3 _ _ _ _ _ _ _ _ _
   | exact ih4 _ _ _ _ _ _ _ _ _ _
   | exact LeO.none _
   | refine LeO.ite ?_ ?_
   | refine LeO.bind ?_ (fun _=>?_)
theorem bits_Div64.calls (k:Nat) (a0:Int) (a1:Int) (a2:Int) (r1:Int) (r2:Int) (w:World) (h:bits_Div64.f k a0 a1 a2=some (r1,r2)) :
  Calls Tryz.prog 172 #[.int .u64 a0,.int .u64 a1,.int .u64 a2] w fun e w'=>e=.returned (.tuple #[.int .u64 r1,.int .u64 r2])∧Drawn0 w w':=by
 have H:(if a2=0 then(none) else(if a2≤a0 then(none) else(if a0=0 then(some (IntKind.u64.wrap (Int.tdiv a1 a2),Int.tmod a1 a2)) else((bits_LeadingZeros64.f a2).bind fun ab=>(if 0≤(IntKind.u64.wrap (ab)) then(if 0≤(IntKind.u64.wrap (64-(IntKind.u64.wrap (ab)))) then(if((shl .u64 a2 (IntKind.u64.wrap (ab)))/4294967296)=0 then(none) else(bits_Div64.l0 k (shl .u64 a2 (IntKind.u64.wrap (ab))) (IntKind.u64.wrap (ab)) ((shl .u64 a2 (IntKind.u64.wrap (ab)))/4294967296) (Go.bits .and .u64 (shl .u64 a2 (IntKind.u64.wrap (ab))) 4294967295) (Go.bits .or .u64 (shl .u64 a0 (IntKind.u64.wrap (ab))) (shr .u64 a1 (IntKind.u64.wrap (64-(IntKind.u64.wrap (ab)))))) ((shl .u64 a1 (IntKind.u64.wrap (ab)))/4294967296) (Go.bits .and .u64 (shl .u64 a1 (IntKind.u64.wrap (ab))) 4294967295) (IntKind.u64.wrap (Int.tdiv (Go.bits .or .u64 (shl .u64 a0 (IntKind.u64.wrap (ab))) (shr .u64 a1 (IntKind.u64.wrap (64-(IntKind.u64.wrap (ab)))))) ((shl .u64 a2 (IntKind.u64.wrap (ab)))/4294967296))) (IntKind.u64.wrap ((Go.bits .or .u64 (shl .u64 a0 (IntKind.u64.wrap (ab))) (shr .u64 a1 (IntKind.u64.wrap (64-(IntKind.u64.wrap (ab))))))-(IntKind.u64.wrap ((IntKind.u64.wrap (Int.tdiv (Go.bits .or .u64 (shl .u64 a0 (IntKind.u64.wrap (ab))) (shr .u64 a1 (IntKind.u64.wrap (64-(IntKind.u64.wrap (ab)))))) ((shl .u64 a2 (IntKind.u64.wrap (ab)))/4294967296)))*((shl .u64 a2 (IntKind.u64.wrap (ab)))/4294967296))))))) else(none)) else(none))))))=some (r1,r2):=h
 clear h
 by_cases c4:a2=0
 ·rw[if_pos c4]at H
  exact absurd H F1
 rw[if_neg c4]at H
 have aE:(a2==0)=false:=beq_eq_false_iff_ne.mpr c4
 have aF:(a2 != 0)=true:=bne_iff_ne.mpr c4
 by_cases c5:a2≤a0
 ·rw[if_pos c5]at H
  exact absurd H F1
 rw[if_neg c5]at H
 have aG:decide (a2≤a0)=false:=decide_eq_false c5
 clear c5
 by_cases c6:a0=0
 ·rw[if_pos c6]at H
  have aB:(a0==0)=true:=beq_iff_eq.mpr c6
  have aC:(a0 != 0)=false:=bne_eq_false_iff_eq.mpr c6
  clear c6
  simp only[Option.some.injEq,Prod.mk.injEq]at H
  obtain⟨rfl,rfl⟩:=H
  go_enter Tryz.func172,Tryz.ntmps172
  go_wp2
  repeat (go_quiet (fail);try go_wp2)
  go_ret2
  exact⟨F0,Y1⟩
 rw[if_neg c6]at H
 have aB:(a0==0)=false:=beq_eq_false_iff_ne.mpr c6
 have aC:(a0 != 0)=true:=bne_iff_ne.mpr c6
 replace H:=Option.bind_eq_some_iff.mp H
 obtain⟨ab,A70,H⟩:=H
 replace H:(if 0≤(IntKind.u64.wrap (ab)) then(if 0≤(IntKind.u64.wrap (64-(IntKind.u64.wrap (ab)))) then(if((shl .u64 a2 (IntKind.u64.wrap (ab)))/4294967296)=0 then(none) else(bits_Div64.l0 k (shl .u64 a2 (IntKind.u64.wrap (ab))) (IntKind.u64.wrap (ab)) ((shl .u64 a2 (IntKind.u64.wrap (ab)))/4294967296) (Go.bits .and .u64 (shl .u64 a2 (IntKind.u64.wrap (ab))) 4294967295) (Go.bits .or .u64 (shl .u64 a0 (IntKind.u64.wrap (ab))) (shr .u64 a1 (IntKind.u64.wrap (64-(IntKind.u64.wrap (ab)))))) ((shl .u64 a1 (IntKind.u64.wrap (ab)))/4294967296) (Go.bits .and .u64 (shl .u64 a1 (IntKind.u64.wrap (ab))) 4294967295) (IntKind.u64.wrap (Int.tdiv (Go.bits .or .u64 (shl .u64 a0 (IntKind.u64.wrap (ab))) (shr .u64 a1 (IntKind.u64.wrap (64-(IntKind.u64.wrap (ab)))))) ((shl .u64 a2 (IntKind.u64.wrap (ab)))/4294967296))) (IntKind.u64.wrap ((Go.bits .or .u64 (shl .u64 a0 (IntKind.u64.wrap (ab))) (shr .u64 a1 (IntKind.u64.wrap (64-(IntKind.u64.wrap (ab))))))-(IntKind.u64.wrap ((IntKind.u64.wrap (Int.tdiv (Go.bits .or .u64 (shl .u64 a0 (IntKind.u64.wrap (ab))) (shr .u64 a1 (IntKind.u64.wrap (64-(IntKind.u64.wrap (ab)))))) ((shl .u64 a2 (IntKind.u64.wrap (ab)))/4294967296)))*((shl .u64 a2 (IntKind.u64.wrap (ab)))/4294967296))))))) else(none)) else(none))=some (r1,r2):=H
 have A7:=Aside0.mk A70
 clear A70
 obtain⟨ji8,aH⟩:∃j_:Int,(IntKind.u64.wrap (ab))=j_:=⟨_,rfl⟩
 replace H:(if 0≤(ji8) then(if 0≤(IntKind.u64.wrap (64-(ji8))) then(if((shl .u64 a2 (ji8))/4294967296)=0 then(none) else(bits_Div64.l0 k (shl .u64 a2 (ji8)) ji8 ((shl .u64 a2 (ji8))/4294967296) (Go.bits .and .u64 (shl .u64 a2 (ji8)) 4294967295) (Go.bits .or .u64 (shl .u64 a0 (ji8)) (shr .u64 a1 (IntKind.u64.wrap (64-(ji8))))) ((shl .u64 a1 (ji8))/4294967296) (Go.bits .and .u64 (shl .u64 a1 (ji8)) 4294967295) (IntKind.u64.wrap (Int.tdiv (Go.bits .or .u64 (shl .u64 a0 (ji8)) (shr .u64 a1 (IntKind.u64.wrap (64-(ji8))))) ((shl .u64 a2 (ji8))/4294967296))) (IntKind.u64.wrap ((Go.bits .or .u64 (shl .u64 a0 (ji8)) (shr .u64 a1 (IntKind.u64.wrap (64-(ji8)))))-(IntKind.u64.wrap ((IntKind.u64.wrap (Int.tdiv (Go.bits .or .u64 (shl .u64 a0 (ji8)) (shr .u64 a1 (IntKind.u64.wrap (64-(ji8))))) ((shl .u64 a2 (ji8))/4294967296)))*((shl .u64 a2 (ji8))/4294967296))))))) else(none)) else(none))=some (r1,r2):=by first|(rw[aH]at H;exact H)|(simp only[aH]at H ⊢;exact H)
 (try rw[aH]at A7)
 by_cases c9:0≤(ji8)
 ·rw [if_pos c9]at H
  have aI:=eq_true c9
  have aJ:decide (0≤(ji8))=true:=decide_eq_true c9
  clear c9
  obtain⟨aa,hji10⟩:∃j_:Int,(shl .u64 a2 (ji8))=j_:=⟨_,rfl⟩
  replace H:(if 0≤(IntKind.u64.wrap (64-(ji8))) then(if((aa)/4294967296)=0 then(none) else(bits_Div64.l0 k aa ji8 ((aa)/4294967296) (Go.bits .and .u64 (aa) 4294967295) (Go.bits .or .u64 (shl .u64 a0 (ji8)) (shr .u64 a1 (IntKind.u64.wrap (64-(ji8))))) ((shl .u64 a1 (ji8))/4294967296) (Go.bits .and .u64 (shl .u64 a1 (ji8)) 4294967295) (IntKind.u64.wrap (Int.tdiv (Go.bits .or .u64 (shl .u64 a0 (ji8)) (shr .u64 a1 (IntKind.u64.wrap (64-(ji8))))) ((aa)/4294967296))) (IntKind.u64.wrap ((Go.bits .or .u64 (shl .u64 a0 (ji8)) (shr .u64 a1 (IntKind.u64.wrap (64-(ji8)))))-(IntKind.u64.wrap ((IntKind.u64.wrap (Int.tdiv (Go.bits .or .u64 (shl .u64 a0 (ji8)) (shr .u64 a1 (IntKind.u64.wrap (64-(ji8))))) ((aa)/4294967296)))*((aa)/4294967296))))))) else(none))=some (r1,r2):=by first|(rw[hji10]at H;exact H)|(simp only[hji10]at H ⊢;exact H)
  (try rw[hji10]at A7)
  have hji10_:(IntKind.u64.wrap (a2*2^min (ji8).toNat 64))=aa:=hji10
  have bb:(ji8)≤64→(IntKind.u64.wrap (a2*2^(ji8).toNat))=aa:=shl_small hji10
  have ao:=eq_true (of_decide_eq_true ‹_›:0≤(ji8))
  obtain⟨ad,hji12⟩:∃j_:Int,(shl .u64 a0 (ji8))=j_:=⟨_,rfl⟩
  replace H:(if 0≤(IntKind.u64.wrap (64-(ji8))) then(if((aa)/4294967296)=0 then(none) else(bits_Div64.l0 k aa ji8 ((aa)/4294967296) (Go.bits .and .u64 (aa) 4294967295) (Go.bits .or .u64 (ad) (shr .u64 a1 (IntKind.u64.wrap (64-(ji8))))) ((shl .u64 a1 (ji8))/4294967296) (Go.bits .and .u64 (shl .u64 a1 (ji8)) 4294967295) (IntKind.u64.wrap (Int.tdiv (Go.bits .or .u64 (ad) (shr .u64 a1 (IntKind.u64.wrap (64-(ji8))))) ((aa)/4294967296))) (IntKind.u64.wrap ((Go.bits .or .u64 (ad) (shr .u64 a1 (IntKind.u64.wrap (64-(ji8)))))-(IntKind.u64.wrap ((IntKind.u64.wrap (Int.tdiv (Go.bits .or .u64 (ad) (shr .u64 a1 (IntKind.u64.wrap (64-(ji8))))) ((aa)/4294967296)))*((aa)/4294967296))))))) else(none))=some (r1,r2):=by first|(rw[hji12]at H;exact H)|(simp only[hji12]at H ⊢;exact H)
  (try rw[hji12]at A7)
  have hji12_:(IntKind.u64.wrap (a0*2^min (ji8).toNat 64))=ad:=hji12
  have bc:(ji8)≤64→(IntKind.u64.wrap (a0*2^(ji8).toNat))=ad:=shl_small hji12
  obtain⟨al,ap⟩:∃j_:Int,(IntKind.u64.wrap (64-(ji8)))=j_:=⟨_,rfl⟩
  replace H:(if 0≤(al) then(if((aa)/4294967296)=0 then(none) else(bits_Div64.l0 k aa ji8 ((aa)/4294967296) (Go.bits .and .u64 (aa) 4294967295) (Go.bits .or .u64 (ad) (shr .u64 a1 (al))) ((shl .u64 a1 (ji8))/4294967296) (Go.bits .and .u64 (shl .u64 a1 (ji8)) 4294967295) (IntKind.u64.wrap (Int.tdiv (Go.bits .or .u64 (ad) (shr .u64 a1 (al))) ((aa)/4294967296))) (IntKind.u64.wrap ((Go.bits .or .u64 (ad) (shr .u64 a1 (al)))-(IntKind.u64.wrap ((IntKind.u64.wrap (Int.tdiv (Go.bits .or .u64 (ad) (shr .u64 a1 (al))) ((aa)/4294967296)))*((aa)/4294967296))))))) else(none))=some (r1,r2):=by first|(rw[ap]at H;exact H)|(simp only[ap]at H ⊢;exact H)
  (try rw[ap]at A7)
  by_cases c14:0≤(al)
  ·rw [if_pos c14]at H
   have aq:=eq_true c14
   have ar:decide (0≤(al))=true:=decide_eq_true c14
   clear c14
   obtain⟨af,hji15⟩:∃j_:Int,(shr .u64 a1 (al))=j_:=⟨_,rfl⟩
   replace H:(if((aa)/4294967296)=0 then(none) else(bits_Div64.l0 k aa ji8 ((aa)/4294967296) (Go.bits .and .u64 (aa) 4294967295) (Go.bits .or .u64 (ad) (af)) ((shl .u64 a1 (ji8))/4294967296) (Go.bits .and .u64 (shl .u64 a1 (ji8)) 4294967295) (IntKind.u64.wrap (Int.tdiv (Go.bits .or .u64 (ad) (af)) ((aa)/4294967296))) (IntKind.u64.wrap ((Go.bits .or .u64 (ad) (af))-(IntKind.u64.wrap ((IntKind.u64.wrap (Int.tdiv (Go.bits .or .u64 (ad) (af)) ((aa)/4294967296)))*((aa)/4294967296)))))))=some (r1,r2):=by first|(rw[hji15]at H;exact H)|(simp only[hji15]at H ⊢;exact H)
   (try rw[hji15]at A7)
   have hji15_:(a1/2^min (al).toNat 64)=af:=hji15
   have bd:(al)≤64→(a1/2^(al).toNat)=af:=shr_small hji15
   have au:=eq_true (of_decide_eq_true ‹_›:0≤(ji8))
   obtain⟨ac,hji17⟩:∃j_:Int,(shl .u64 a1 (ji8))=j_:=⟨_,rfl⟩
   replace H:(if((aa)/4294967296)=0 then(none) else(bits_Div64.l0 k aa ji8 ((aa)/4294967296) (Go.bits .and .u64 (aa) 4294967295) (Go.bits .or .u64 (ad) (af)) ((ac)/4294967296) (Go.bits .and .u64 (ac) 4294967295) (IntKind.u64.wrap (Int.tdiv (Go.bits .or .u64 (ad) (af)) ((aa)/4294967296))) (IntKind.u64.wrap ((Go.bits .or .u64 (ad) (af))-(IntKind.u64.wrap ((IntKind.u64.wrap (Int.tdiv (Go.bits .or .u64 (ad) (af)) ((aa)/4294967296)))*((aa)/4294967296)))))))=some (r1,r2):=by first|(rw[hji17]at H;exact H)|(simp only[hji17]at H ⊢;exact H)
   (try rw[hji17]at A7)
   have hji17_:(IntKind.u64.wrap (a1*2^min (ji8).toNat 64))=ac:=hji17
   have be:(ji8)≤64→(IntKind.u64.wrap (a1*2^(ji8).toNat))=ac:=shl_small hji17
   by_cases c18:((aa)/4294967296)=0
   ·rw[if_pos c18]at H
    exact absurd H F1
   rw[if_neg c18]at H
   have av:(((aa)/4294967296)==0)=false:=beq_eq_false_iff_ne.mpr c18
   have aw:(((aa)/4294967296) != 0)=true:=bne_iff_ne.mpr c18
   have aN:=Aside0.mk H
   clear H
   go_enter Tryz.func172,Tryz.ntmps172
   go_upto_block 0 with(first|(go_at_call 170;(with_reducible refine(bits_LeadingZeros64.calls a2 ab _ A7.out).mono ?_);rintro e w' ⟨rfl,⟨nd,rfl⟩⟩;(try first|exact⟨rfl,_,World.drewN_drewN _ _ _⟩|exact⟨rfl,_,Eq.trans (World.drewN_drewN _ _ _) (congrArg (World.drewN _) (Nat.add_assoc _ _ _))⟩)))
   repeat (go_quiet (first|(go_at_call 170;(with_reducible refine(bits_LeadingZeros64.calls a2 ab _ A7.out).mono ?_);rintro e w' ⟨rfl,⟨nd,rfl⟩⟩;(try first|exact⟨rfl,_,World.drewN_drewN _ _ _⟩|exact⟨rfl,_,Eq.trans (World.drewN_drewN _ _ _) (congrArg (World.drewN _) (Nat.add_assoc _ _ _))⟩)));go_upto_block 0 with(first|(go_at_call 170;(with_reducible refine(bits_LeadingZeros64.calls a2 ab _ A7.out).mono ?_);rintro e w' ⟨rfl,⟨nd,rfl⟩⟩;(try first|exact⟨rfl,_,World.drewN_drewN _ _ _⟩|exact⟨rfl,_,Eq.trans (World.drewN_drewN _ _ _) (congrArg (World.drewN _) (Nat.add_assoc _ _ _))⟩))))
   (try simp only[Act.put,kss])
   go_cut [15] (fun v15 wc=>∃(kq:Nat) (ae:Int),v15=.int .u64 ae∧Aside0 (bits_Div64.j2 kq aa ji8 ((aa)/4294967296) (Go.bits .and .u64 (aa) 4294967295) (Go.bits .or .u64 (ad) (af)) ((ac)/4294967296) (Go.bits .and .u64 (ac) 4294967295) ae=some (r1,r2))∧Aside0 (kq≤k)∧Drawn0 w wc)
   case first=>
    have H:=aN.out
    clear aN
    have H':=Aside0.mk H
    clear H
    go_wp2
    repeat (go_quiet (fail);try go_wp2)
    go_loopg [15,16] k (fun kq v15 v16 w'=>∃(ah:Int) (ai:Int),v15=.int .u64 ah∧v16=.int .u64 ai∧Aside0 (bits_Div64.l0 kq aa ji8 ((aa)/4294967296) (Go.bits .and .u64 (aa) 4294967295) (Go.bits .or .u64 (ad) (af)) ((ac)/4294967296) (Go.bits .and .u64 (ac) 4294967295) ah ai=some (r1,r2))∧Aside0 (kq≤k)∧Drawn0 w w')
    case atStart=>exact⟨(IntKind.u64.wrap (Int.tdiv (Go.bits .or .u64 (ad) (af)) ((aa)/4294967296))),(IntKind.u64.wrap ((Go.bits .or .u64 (ad) (af))-(IntKind.u64.wrap ((IntKind.u64.wrap (Int.tdiv (Go.bits .or .u64 (ad) (af)) ((aa)/4294967296)))*((aa)/4294967296))))),V6,V6,H',⟨Nat.le_refl _⟩,Y1⟩
    case round=>
     clear H'
     try clear c1
     try clear p2
     try clear c4
     try clear aE
     try clear aF
     try clear c5
     try clear aG
     try clear c6
     try clear aB
     try clear aC
     try clear c9
     try clear aI
     try clear aJ
     try clear c11
     try clear ao
     try clear c14
     try clear aq
     try clear ar
     try clear c16
     try clear au
     try clear c17
     try clear c18
     try clear av
     try clear aw
     obtain⟨ah,ai,rfl,rfl,HA,HK1,⟨m1,rfl⟩⟩:=hrel
     cases gk with
     | zero=>exact absurd HA.out (by simp[bits_Div64.l0])
     | succ k1=>
      have H:=HA.out
      clear HA
      simp only[bits_Div64.l0]at H
      have aO:=Aside0.mk H
      clear H
      go_upto_region 17 with(fail)
      repeat (go_quiet (fail);go_upto_region 17 with(fail))
      go_cut [78] (fun v78 wc=>∃(kq:Nat) (ax:Bool),v78=.bool ax∧Aside0 (bits_Div64.j1 kq aa ji8 ((aa)/4294967296) (Go.bits .and .u64 (aa) 4294967295) (Go.bits .or .u64 (ad) (af)) ((ac)/4294967296) (Go.bits .and .u64 (ac) 4294967295) ah ai ax=some (r1,r2))∧Aside0 (kq≤k1)∧Drawn0 w wc)
      case first=>
       have H:=aO.out
       clear aO
       by_cases c21:ah≥4294967296
       ·rw[if_pos c21]at H
        have ak:decide (4294967296≤ah)=true:=decide_eq_true c21
        clear c21
        (first|rw[ak]|rw[ay]|(simp only[i64_w,i32_w];rw[ak])|skip)
        have H':=Aside0.mk H
        clear H
        go_wp2
        repeat (go_quiet (fail);try go_wp2)
        go_meet
        case rel=>exact⟨_,(true),F0,H',⟨by have:=HK1.out;first|omega|exact Nat.le_refl _⟩,Y1⟩
       rw[if_neg c21]at H
       have ak:decide (4294967296≤ah)=false:=decide_eq_false c21
       clear c21
       (first|rw[ak]|rw[ay]|(simp only[i64_w,i32_w];rw[ak])|skip)
       have H':=Aside0.mk H
       clear H
       go_wp2
       repeat (go_quiet (fail);try go_wp2)
       go_meet
       case rel=>exact⟨_,(decide ((IntKind.u64.wrap (ah*(Go.bits .and .u64 (aa) 4294967295)))>(IntKind.u64.wrap ((IntKind.u64.wrap (4294967296*ai))+((ac)/4294967296))))),U6,H',⟨by have:=HK1.out;first|omega|exact Nat.le_refl _⟩,Y1⟩
      case rest=>
       clear aO
       try clear c1
       try clear c2
       try clear p2
       try clear c4
       try clear aE
       try clear aF
       try clear c5
       try clear aG
       try clear c6
       try clear aB
       try clear aC
       try clear c9
       try clear aI
       try clear aJ
       try clear c11
       try clear ao
       try clear c14
       try clear aq
       try clear ar
       try clear c16
       try clear au
       try clear c17
       try clear c18
       try clear av
       try clear aw
       try clear c21
       try clear ak
       try clear ay
       try clear p2
       obtain⟨kq,ax,rfl,HA,aK,⟨bl,rfl⟩⟩:=hcut
       cases kq with
       | zero=>exact absurd HA.out (by simp[bits_Div64.j1])
       | succ aL=>
        have H:=HA.out
        clear HA
        simp only[bits_Div64.j1]at H
        by_cases c22:ax=true
        ·subst c22
         have H1:(if(IntKind.u64.wrap (ai+((aa)/4294967296)))≥4294967296 then(bits_Div64.j2 aL aa ji8 ((aa)/4294967296) (Go.bits .and .u64 (aa) 4294967295) (Go.bits .or .u64 (ad) (af)) ((ac)/4294967296) (Go.bits .and .u64 (ac) 4294967295) (IntKind.u64.wrap (ah-1))) else(bits_Div64.l0 aL aa ji8 ((aa)/4294967296) (Go.bits .and .u64 (aa) 4294967295) (Go.bits .or .u64 (ad) (af)) ((ac)/4294967296) (Go.bits .and .u64 (ac) 4294967295) (IntKind.u64.wrap (ah-1)) (IntKind.u64.wrap (ai+((aa)/4294967296)))))=some (r1,r2):=by rw[if_pos rfl]at H;exact H
         clear H
         have H:=H1
         clear H1
         by_cases c23:(IntKind.u64.wrap (ai+((aa)/4294967296)))≥4294967296
         ·rw[if_pos c23]at H
          have aD:decide (4294967296≤(IntKind.u64.wrap (ai+((aa)/4294967296))))=true:=decide_eq_true c23
          clear c23
          have H':=Aside0.mk H
          clear H
          go_wp2
          repeat (go_quiet (fail);try go_wp2)
          go_meet
          case rel=>exact⟨_,(IntKind.u64.wrap (ah-1)),F0,H',⟨by have:=HK1.out;have:=aK.out;first|omega|exact Nat.le_refl _⟩,Y1⟩
         rw[if_neg c23]at H
         have aD:decide (4294967296≤(IntKind.u64.wrap (ai+((aa)/4294967296))))=false:=decide_eq_false c23
         clear c23
         have H':=Aside0.mk H
         clear H
         go_wp2
         repeat (go_quiet (fail);try go_wp2)
         go_roundg aL
         case measure=>have:=HK1.out;have:=aK.out;omega
         case rel=>exact⟨(IntKind.u64.wrap (ah-1)),(IntKind.u64.wrap (ai+((aa)/4294967296))),F0,J6,H',⟨by have:=HK1.out;have:=aK.out;omega⟩,Y1⟩
        replace c22:=Bool.eq_false_iff.mpr c22
        subst c22
        have H1:(bits_Div64.j2 aL aa ji8 ((aa)/4294967296) (Go.bits .and .u64 (aa) 4294967295) (Go.bits .or .u64 (ad) (af)) ((ac)/4294967296) (Go.bits .and .u64 (ac) 4294967295) ah)=some (r1,r2):=by rw[if_neg (show ¬(false=true) by decide)]at H;exact H
        clear H
        have H:=H1
        clear H1
        have H':=Aside0.mk H
        clear H
        go_wp2
        repeat (go_quiet (fail);try go_wp2)
        go_meet
        case rel=>exact⟨_,(ah),F0,H',⟨by have:=HK1.out;have:=aK.out;first|omega|exact Nat.le_refl _⟩,Y1⟩
   case rest=>
    clear aN
    try clear c1
    try clear c2
    try clear p2
    try clear c4
    try clear aE
    try clear aF
    try clear c5
    try clear aG
    try clear c6
    try clear aB
    try clear aC
    try clear c9
    try clear aI
    try clear aJ
    try clear c11
    try clear ao
    try clear c14
    try clear aq
    try clear ar
    try clear c16
    try clear au
    try clear c17
    try clear c18
    try clear av
    try clear aw
    try clear c19
    try clear c21
    try clear ak
    try clear ay
    try clear c22
    try clear c23
    try clear aD
    try clear p2
    obtain⟨kq,ae,rfl,HA,aM,⟨bn,rfl⟩⟩:=hcut
    cases kq with
    | zero=>exact absurd HA.out (by simp[bits_Div64.j2])
    | succ aV=>
     have H:=HA.out
     clear HA
     simp only[bits_Div64.j2]at H
     by_cases c24:((aa)/4294967296)=0
     ·rw[if_pos c24]at H
      exact absurd H F1
     rw[if_neg c24]at H
     have aS:(((aa)/4294967296)==0)=false:=beq_eq_false_iff_ne.mpr c24
     have aT:(((aa)/4294967296) != 0)=true:=bne_iff_ne.mpr c24
     have H':=Aside0.mk H
     clear H
     go_wp2
     repeat (go_quiet (fail);try go_wp2)
     go_loopg [16,18] aV (fun kq v16 v18 w'=>∃(aj:Int) (ag:Int),v16=.int .u64 aj∧v18=.int .u64 ag∧Aside0 (bits_Div64.l1 kq aa ji8 ((aa)/4294967296) (Go.bits .and .u64 (aa) 4294967295) (Go.bits .and .u64 (ac) 4294967295) ae aj (IntKind.u64.wrap ((IntKind.u64.wrap ((IntKind.u64.wrap ((Go.bits .or .u64 (ad) (af))*4294967296))+((ac)/4294967296)))-(IntKind.u64.wrap (ae*aa)))) ag=some (r1,r2))∧Aside0 (kq≤aV)∧Drawn0 w w')
     case atStart=>exact⟨(IntKind.u64.wrap ((IntKind.u64.wrap ((IntKind.u64.wrap ((IntKind.u64.wrap ((Go.bits .or .u64 (ad) (af))*4294967296))+((ac)/4294967296)))-(IntKind.u64.wrap (ae*aa))))-(IntKind.u64.wrap ((IntKind.u64.wrap (Int.tdiv (IntKind.u64.wrap ((IntKind.u64.wrap ((IntKind.u64.wrap ((Go.bits .or .u64 (ad) (af))*4294967296))+((ac)/4294967296)))-(IntKind.u64.wrap (ae*aa)))) ((aa)/4294967296)))*((aa)/4294967296))))),(IntKind.u64.wrap (Int.tdiv (IntKind.u64.wrap ((IntKind.u64.wrap ((IntKind.u64.wrap ((Go.bits .or .u64 (ad) (af))*4294967296))+((ac)/4294967296)))-(IntKind.u64.wrap (ae*aa)))) ((aa)/4294967296))),Y6,Y6,H',⟨Nat.le_refl _⟩,Y1⟩
     case round=>
      clear H'
      try clear c1
      try clear c2
      try clear p2
      try clear c4
      try clear aE
      try clear aF
      try clear c5
      try clear aG
      try clear c6
      try clear aB
      try clear aC
      try clear c9
      try clear aI
      try clear aJ
      try clear c11
      try clear ao
      try clear c14
      try clear aq
      try clear ar
      try clear c16
      try clear au
      try clear c17
      try clear c18
      try clear av
      try clear aw
      try clear c19
      try clear c21
      try clear ak
      try clear ay
      try clear c22
      try clear c23
      try clear aD
      try clear c24
      try clear aS
      try clear aT
      try clear p2
      obtain⟨aj,ag,rfl,rfl,HA,HK2,⟨m2,rfl⟩⟩:=hrel
      cases gk with
      | zero=>exact absurd HA.out (by simp[bits_Div64.l1])
      | succ k2=>
       have H:=HA.out
       clear HA
       simp only[bits_Div64.l1]at H
       have aP:=Aside0.mk H
       clear H
       go_upto_region 24 with(fail)
       repeat (go_quiet (fail);go_upto_region 24 with(fail))
       go_cut [113] (fun aZ wc=>∃(kq:Nat) (am:Bool),aZ=.bool am∧Aside0 (bits_Div64.j4 kq aa ji8 ((aa)/4294967296) (Go.bits .and .u64 (aa) 4294967295) (Go.bits .and .u64 (ac) 4294967295) ae aj (IntKind.u64.wrap ((IntKind.u64.wrap ((IntKind.u64.wrap ((Go.bits .or .u64 (ad) (af))*4294967296))+((ac)/4294967296)))-(IntKind.u64.wrap (ae*aa)))) ag am=some (r1,r2))∧Aside0 (kq≤k2)∧Drawn0 w wc)
       case first=>
        have H:=aP.out
        clear aP
        by_cases c26:ag≥4294967296
        ·rw[if_pos c26]at H
         have an:decide (4294967296≤ag)=true:=decide_eq_true c26
         clear c26
         (first|rw[an]|rw[aU]|(simp only[i64_w,i32_w];rw[an])|skip)
         have H':=Aside0.mk H
         clear H
         go_wp2
         repeat (go_quiet (fail);try go_wp2)
         go_meet
         case rel=>exact⟨_,(true),F0,H',⟨by have:=aM.out;have:=HK2.out;first|omega|exact Nat.le_refl _⟩,Y1⟩
        rw[if_neg c26]at H
        have an:decide (4294967296≤ag)=false:=decide_eq_false c26
        clear c26
        (first|rw[an]|rw[aU]|(simp only[i64_w,i32_w];rw[an])|skip)
        have H':=Aside0.mk H
        clear H
        go_wp2
        repeat (go_quiet (fail);try go_wp2)
        go_meet
        case rel=>exact⟨_,(decide ((IntKind.u64.wrap (ag*(Go.bits .and .u64 (aa) 4294967295)))>(IntKind.u64.wrap ((IntKind.u64.wrap (4294967296*aj))+(Go.bits .and .u64 (ac) 4294967295))))),U6,H',⟨by have:=aM.out;have:=HK2.out;first|omega|exact Nat.le_refl _⟩,Y1⟩
       case rest=>
        clear aP
        try clear c1
        try clear c2
        try clear p2
        try clear c4
        try clear aE
        try clear aF
        try clear c5
        try clear aG
        try clear c6
        try clear aB
        try clear aC
        try clear c9
        try clear aI
        try clear aJ
        try clear c11
        try clear ao
        try clear c14
        try clear aq
        try clear ar
        try clear c16
        try clear au
        try clear c17
        try clear c18
        try clear av
        try clear aw
        try clear c19
        try clear c21
        try clear ak
        try clear ay
        try clear c22
        try clear c23
        try clear aD
        try clear c24
        try clear aS
        try clear aT
        try clear c26
        try clear an
        try clear aU
        try clear p2
        obtain⟨kq,am,rfl,HA,aW,⟨bo,rfl⟩⟩:=hcut
        cases kq with
        | zero=>exact absurd HA.out (by simp[bits_Div64.j4])
        | succ aX=>
         have H:=HA.out
         clear HA
         simp only[bits_Div64.j4]at H
         by_cases c27:am=true
         ·subst c27
          have H1:(if(IntKind.u64.wrap (aj+((aa)/4294967296)))≥4294967296 then(if 0≤ji8 then(some (IntKind.u64.wrap ((IntKind.u64.wrap (ae*4294967296))+(IntKind.u64.wrap (ag-1))),shr .u64 (IntKind.u64.wrap ((IntKind.u64.wrap ((IntKind.u64.wrap ((IntKind.u64.wrap ((IntKind.u64.wrap ((IntKind.u64.wrap ((Go.bits .or .u64 (ad) (af))*4294967296))+((ac)/4294967296)))-(IntKind.u64.wrap (ae*aa))))*4294967296))+(Go.bits .and .u64 (ac) 4294967295)))-(IntKind.u64.wrap ((IntKind.u64.wrap (ag-1))*aa)))) ji8)) else(none)) else(bits_Div64.l1 aX aa ji8 ((aa)/4294967296) (Go.bits .and .u64 (aa) 4294967295) (Go.bits .and .u64 (ac) 4294967295) ae (IntKind.u64.wrap (aj+((aa)/4294967296))) (IntKind.u64.wrap ((IntKind.u64.wrap ((IntKind.u64.wrap ((Go.bits .or .u64 (ad) (af))*4294967296))+((ac)/4294967296)))-(IntKind.u64.wrap (ae*aa)))) (IntKind.u64.wrap (ag-1))))=some (r1,r2):=by rw[if_pos rfl]at H;exact H
          clear H
          have H:=H1
          clear H1
          by_cases c28:(IntKind.u64.wrap (aj+((aa)/4294967296)))≥4294967296
          ·rw[if_pos c28]at H
           have aY:decide (4294967296≤(IntKind.u64.wrap (aj+((aa)/4294967296))))=true:=decide_eq_true c28
           clear c28
           by_cases c29:0≤ji8
           ·rw[if_pos c29]at H
            have bh:=eq_true c29
            have bi:decide (0≤ji8)=true:=decide_eq_true c29
            clear c29
            obtain⟨aQ,az⟩:∃j_:Int,(shr .u64 (IntKind.u64.wrap ((IntKind.u64.wrap ((IntKind.u64.wrap ((IntKind.u64.wrap ((IntKind.u64.wrap ((IntKind.u64.wrap ((Go.bits .or .u64 (ad) (af))*4294967296))+((ac)/4294967296)))-(IntKind.u64.wrap (ae*aa))))*4294967296))+(Go.bits .and .u64 (ac) 4294967295)))-(IntKind.u64.wrap ((IntKind.u64.wrap (ag-1))*aa)))) ji8)=j_:=⟨_,rfl⟩
            replace H:(some (IntKind.u64.wrap ((IntKind.u64.wrap (ae*4294967296))+(IntKind.u64.wrap (ag-1))),aQ))=some (r1,r2):=by first|(rw[az]at H;exact H)|(simp only[az]at H ⊢;exact H)
            have hji30_:((IntKind.u64.wrap ((IntKind.u64.wrap ((IntKind.u64.wrap ((IntKind.u64.wrap ((IntKind.u64.wrap ((IntKind.u64.wrap ((Go.bits .or .u64 (ad) (af))*4294967296))+((ac)/4294967296)))-(IntKind.u64.wrap (ae*aa))))*4294967296))+(Go.bits .and .u64 (ac) 4294967295)))-(IntKind.u64.wrap ((IntKind.u64.wrap (ag-1))*aa))))/2^min ji8.toNat 64)=aQ:=az
            have bf:ji8≤64→((IntKind.u64.wrap ((IntKind.u64.wrap ((IntKind.u64.wrap ((IntKind.u64.wrap ((IntKind.u64.wrap ((IntKind.u64.wrap ((Go.bits .or .u64 (ad) (af))*4294967296))+((ac)/4294967296)))-(IntKind.u64.wrap (ae*aa))))*4294967296))+(Go.bits .and .u64 (ac) 4294967295)))-(IntKind.u64.wrap ((IntKind.u64.wrap (ag-1))*aa))))/2^ji8.toNat)=aQ:=shr_small az
            simp only[Option.some.injEq,Prod.mk.injEq]at H
            obtain⟨rfl,rfl⟩:=H
            go_wp2
            repeat (go_quiet (fail);try go_wp2)
            go_ret2
            exact⟨by first|rfl|(simp;done)|(simp only[←aH,←hji10,←hji12,←ap,←hji15,←hji17,←az]<;>(first|rfl|simp))|(simp[*];done),Y1⟩
           rw[if_neg c29]at H
           exact absurd H F1
          rw[if_neg c28]at H
          have aY:decide (4294967296≤(IntKind.u64.wrap (aj+((aa)/4294967296))))=false:=decide_eq_false c28
          clear c28
          have H':=Aside0.mk H
          clear H
          go_wp2
          repeat (go_quiet (fail);try go_wp2)
          go_roundg aX
          case measure=>have:=aM.out;have:=HK2.out;have:=aW.out;omega
          case rel=>exact⟨(IntKind.u64.wrap (aj+((aa)/4294967296))),(IntKind.u64.wrap (ag-1)),J6,F0,H',⟨by have:=aM.out;have:=HK2.out;have:=aW.out;omega⟩,Y1⟩
         replace c27:=Bool.eq_false_iff.mpr c27
         subst c27
         have H1:(if 0≤ji8 then(some (IntKind.u64.wrap ((IntKind.u64.wrap (ae*4294967296))+ag),shr .u64 (IntKind.u64.wrap ((IntKind.u64.wrap ((IntKind.u64.wrap ((IntKind.u64.wrap ((IntKind.u64.wrap ((IntKind.u64.wrap ((Go.bits .or .u64 (ad) (af))*4294967296))+((ac)/4294967296)))-(IntKind.u64.wrap (ae*aa))))*4294967296))+(Go.bits .and .u64 (ac) 4294967295)))-(IntKind.u64.wrap (ag*aa)))) ji8)) else(none))=some (r1,r2):=by rw[if_neg (show ¬(false=true) by decide)]at H;exact H
         clear H
         have H:=H1
         clear H1
         by_cases c31:0≤ji8
         ·rw[if_pos c31]at H
          have bj:=eq_true c31
          have bk:decide (0≤ji8)=true:=decide_eq_true c31
          clear c31
          obtain⟨aR,aA⟩:∃j_:Int,(shr .u64 (IntKind.u64.wrap ((IntKind.u64.wrap ((IntKind.u64.wrap ((IntKind.u64.wrap ((IntKind.u64.wrap ((IntKind.u64.wrap ((Go.bits .or .u64 (ad) (af))*4294967296))+((ac)/4294967296)))-(IntKind.u64.wrap (ae*aa))))*4294967296))+(Go.bits .and .u64 (ac) 4294967295)))-(IntKind.u64.wrap (ag*aa)))) ji8)=j_:=⟨_,rfl⟩
          replace H:(some (IntKind.u64.wrap ((IntKind.u64.wrap (ae*4294967296))+ag),aR))=some (r1,r2):=by first|(rw[aA]at H;exact H)|(simp only[aA]at H ⊢;exact H)
          have hji32_:((IntKind.u64.wrap ((IntKind.u64.wrap ((IntKind.u64.wrap ((IntKind.u64.wrap ((IntKind.u64.wrap ((IntKind.u64.wrap ((Go.bits .or .u64 (ad) (af))*4294967296))+((ac)/4294967296)))-(IntKind.u64.wrap (ae*aa))))*4294967296))+(Go.bits .and .u64 (ac) 4294967295)))-(IntKind.u64.wrap (ag*aa))))/2^min ji8.toNat 64)=aR:=aA
          have bg:ji8≤64→((IntKind.u64.wrap ((IntKind.u64.wrap ((IntKind.u64.wrap ((IntKind.u64.wrap ((IntKind.u64.wrap ((IntKind.u64.wrap ((Go.bits .or .u64 (ad) (af))*4294967296))+((ac)/4294967296)))-(IntKind.u64.wrap (ae*aa))))*4294967296))+(Go.bits .and .u64 (ac) 4294967295)))-(IntKind.u64.wrap (ag*aa))))/2^ji8.toNat)=aR:=shr_small aA
          simp only[Option.some.injEq,Prod.mk.injEq]at H
          obtain⟨rfl,rfl⟩:=H
          go_wp2
          repeat (go_quiet (fail);try go_wp2)
          go_ret2
          exact⟨by first|rfl|(simp;done)|(simp only[←aH,←hji10,←hji12,←ap,←hji15,←hji17,←aA]<;>(first|rfl|simp))|(simp[*];done),Y1⟩
         rw[if_neg c31]at H
         exact absurd H F1
  rw[if_neg c14]at H
  exact absurd H F1
 rw[if_neg c9]at H
 exact absurd H F1
def whole_amount_byLimb.l0:Nat→List Int→Int→List Int→Int→Int→Option (List Int×Int)
 | 0,_,_,_,_,_=>none
 | k+1,x0,x1,x6,x7,x8=>if x8≥0 then(if 0≤x8 then(if x8<(x0.length:Int) then((bits_Div64.f k x7 (rd x0 x8) x1).bind fun bt163=>(if x8<(x6.length:Int) then(whole_amount_byLimb.l0 k x0 x1 (x6.set (x8:Int).toNat bt163.1) bt163.2 (wrap64 (x8-1))) else(none))) else(none)) else(none)) else((whole_trimmed.f k x6).bind fun t166=>(some (t166,x7)))
def whole_amount_byLimb.f (k:Nat) (l0:List Int) (a1:Int):Option (List Int×Int):=if 0≤(l0.length:Int) then(if((l0.length:Int):Int).toNat≤35184372088832 then(whole_amount_byLimb.l0 k l0 a1 (List.replicate ((l0.length:Int):Int).toNat 0) 0 (wrap64 ((l0.length:Int)-1))) else(none)) else(none)
theorem whole_amount_byLimb.mono_l:∀k,(∀y0 y1 y2 y3 y4,LeO (whole_amount_byLimb.l0 k y0 y1 y2 y3 y4) (whole_amount_byLimb.l0 (k+1) y0 y1 y2 y3 y4))
 | 0=>fun _ _ _ _ _ r h=>by simp[whole_amount_byLimb.l0]at h
 | k+1=>by
  have ih0:=whole_amount_byLimb.mono_l k
  intro y0 y1 y2 y3 y4
  unfold whole_amount_byLimb.l0
  repeat' first
  | (with_reducible exact ih0 _ _ _ _ _)
  | (with_reducible exact bits_Div64.mono _ _ _ _)
  | (with_reducible exact whole_trimmed.mono _ _)
  | (with_reducible exact LeO.refl _)
  | (with_reducible exact LeO.none _)
  | (with_reducible refine LeO.ite ?_ ?_)
  | (with_reducible refine LeO.bind ?_ (fun _=>?_))
  | exact ih0 _ _ _ _ _
  | exact bits_Div64.mono _ _ _ _
  | exact whole_trimmed.mono _ _
  | exact LeO.none _
  | refine LeO.ite ?_ ?_
  | refine LeO.bind ?_ (fun _=>?_)
theorem whole_amount_byLimb.mono:∀a0 a1 k,LeO (whole_amount_byLimb.f k a0 a1) (whole_amount_byLimb.f (k+1) a0 a1):=by
 intro a0 a1 k
 have ih0:=whole_amount_byLimb.mono_l k
 unfold whole_amount_byLimb.f
 repeat' first
   | (with_reducible exact ih0 _ _ _ _ _)
   | (with_reducible exact bits_Div64.mono _ _ _ _)
   | (with_reducible exact whole_trimmed.mono _ _)
   | (with_reducible exact LeO.refl _)
   | (with_reducible exact LeO.none _)
   | (with_reducible refine LeO.ite ?_ ?_)
   | (with_reducible refine LeO.bind ?_ (fun _=>?_))
   | exact ih0 _ _ _ _ _
   | exact bits_Div64.mono _ _ _ _
   | exact whole_trimmed.mono _ _
   | exact LeO.none _
   | refine LeO.ite ?_ ?_
   | refine LeO.bind ?_ (fun _=>?_)
theorem whole_amount_byLimb.calls (k:Nat) (A0:Option Addr) (c0:Nat) (l0:List Int) (a1:Int) (r1:List Int) (r2:Int) (w:World) (hr0:Kd.C (Kd.int .u64) w A0 l0.length l0) (hc0:l0.length≤c0) (h:whole_amount_byLimb.f k l0 a1=some (r1,r2)) :
  Calls Tryz.prog 169 #[.slice A0 l0.length c0,.int .u64 a1] w fun e w'=>∃v0_:Value,e=.returned (.tuple #[v0_,.int .u64 r2])∧Kd.V (Kd.int .u64) 48 w' w.heap.size (fun k_=>(w.heap.size≤k_)) v0_ r1∧Below w.heap.size w w':=by
 have HR0:=Aside0.mk hr0
 have HC0:=Aside0.mk hc0
 clear hr0 hc0
 have HB:=Aside0.mk (Below.refl w.heap.size w)
 have H:(if 0≤(l0.length:Int) then(if((l0.length:Int):Int).toNat≤35184372088832 then(whole_amount_byLimb.l0 k l0 a1 (List.replicate ((l0.length:Int):Int).toNat 0) 0 (wrap64 ((l0.length:Int)-1))) else(none)) else(none))=some (r1,r2):=h
 clear h
 by_cases c3:0≤(l0.length:Int)
 ·rw [if_pos c3]at H
  have aE:=eq_true c3
  have aF:decide (0≤(l0.length:Int))=true:=decide_eq_true c3
  clear c3
  by_cases c4:((l0.length:Int):Int).toNat≤35184372088832
  ·rw [if_pos c4]at H
   have aG:=eq_true c4
   have aH:decide (((l0.length:Int):Int).toNat≤35184372088832)=true:=decide_eq_true c4
   clear c4
   obtain⟨ap,ad⟩:∃y_:List Int,y_=(List.replicate ((l0.length:Int):Int).toNat 0):=⟨_,rfl⟩
   replace H:(whole_amount_byLimb.l0 k l0 a1 ap 0 (wrap64 ((l0.length:Int)-1)))=some (r1,r2):=by first|(rw[ad];with_reducible exact H)|(have H2_:=(Option.bind_some _ _).symm.trans H;rw[ad];with_reducible exact H2_)|(have H2_:=(Option.bind_some _ _).symm.trans H;with_reducible exact H2_)|with_reducible exact H|(rw[ad];exact H)|exact H
   have ao:=Aside0.mk ad
   clear ad
   have H':=Aside0.mk H
   clear H
   go_enter Tryz.func169,Tryz.ntmps169
   go_wp2_with (first|(refine gd 11 rfl ?_;refine Kd.R_make (Kd.int .u64) _ 48 rfl (N:=11) rfl 25 _ _ rfl (l0.length:Int) rfl rfl Tryz.underlying25 (.int .u64 0) 8 info48 rfl X0 Y0 0 (ok:=fun _=>True) (okp:=fun _=>True) rfl (fun _ hk=>hk) trivial (of_decide_eq_true ‹_›) (Nat.le_trans (Nat.mul_le_mul_right _ (of_decide_eq_true ‹_›:(l0.length:Int).toNat≤35184372088832)) Y0) (Below.refl _ _) (Nat.le_refl _) ?_;intro aq w5 ho6 hb hg_ hnew_;clear hg_ hnew_;(first|rw[←ao.out]at ho6|(simp only[Int.reduceToNat]at ho6;rw[←ao.out]at ho6));have aB:=Aside0.mk (Kd.R_lower (Kd.R_newM (M:=fun k_=>(w.heap.size≤k_)) ho6 (below_size (khu HB.out)) (fun k_ h_=>h_)) (below_size (khu HB.out)));replace HB:=kbs HB hb;clear hb ho6))
   go_loopg [7,8] k (fun kq v7 v8 w'=>∃(ab:List Int) (af:Int) (aa:Int),v7=.int .u64 af∧v8=.int .i64 aa∧Aside0 (whole_amount_byLimb.l0 kq l0 a1 ab af aa=some (r1,r2))∧Aside0 (kq≤k)∧Aside0 (Kd.R (Kd.int .u64) 48 w' w.heap.size (fun k_=>(w.heap.size≤k_)) aq ab)∧Aside0 (Below w.heap.size w w'))
   case atStart=>exact⟨(ap),(0),(wrap64 ((l0.length:Int)-1)),F0,F0,H',⟨Nat.le_refl _⟩,⟨by(with_reducible repeat (first|apply Kd.R_alloc|apply Kd.R_drewN|apply Kd.R_drew));exact Kd.R_mono aB.out (fun _ hk=>hk.1)⟩,⟨khu HB.out⟩⟩
   case round=>
    clear H'
    try clear c1
    try clear p2
    try clear c3
    try clear aE
    try clear aF
    try clear c4
    try clear aG
    try clear aH
    try clear p6
    obtain⟨ab,af,aa,rfl,rfl,HA,HK1,ac,HB⟩:=hrel
    cases gk with
    | zero=>exact absurd HA.out (by simp[whole_amount_byLimb.l0])
    | succ k1=>
     have H:=HA.out
     clear HA
     simp only[whole_amount_byLimb.l0]at H
     by_cases c7:aa≥0
     ·rw [if_pos c7]at H
      have aI:decide (0≤aa)=true:=decide_eq_true c7
      clear c7
      by_cases c8:0≤aa
      ·rw[if_pos c8]at H
       have aS:decide (0≤aa)=true:=decide_eq_true c8
       clear c8
       by_cases c9:aa<(l0.length:Int)
       ·rw[if_pos c9]at H
        have aT:decide (aa<(l0.length:Int))=true:=decide_eq_true c9
        clear c9
        replace H:=Option.bind_eq_some_iff.mp H
        obtain⟨⟨ah,ai⟩,ar,H⟩:=H
        replace H:(if aa<(ab.length:Int) then(whole_amount_byLimb.l0 k1 l0 a1 (ab.set (aa:Int).toNat ah) ai (wrap64 (aa-1))) else(none))=some (r1,r2):=H
        have A10:=Aside0.mk ar
        clear ar
        by_cases c11:aa<(ab.length:Int)
        ·rw[if_pos c11]at H
         have aQ:decide (aa<(ab.length:Int))=true:=decide_eq_true c11
         clear c11
         obtain⟨aj,ae⟩:∃y_:List Int,y_=(ab.set (aa:Int).toNat ah):=⟨_,rfl⟩
         replace H:(whole_amount_byLimb.l0 k1 l0 a1 aj ai (wrap64 (aa-1)))=some (r1,r2):=by first|(rw[ae];with_reducible exact H)|(have H2_:=(Option.bind_some _ _).symm.trans H;rw[ae];with_reducible exact H2_)|(have H2_:=(Option.bind_some _ _).symm.trans H;with_reducible exact H2_)|with_reducible exact H|(rw[ae];exact H)|exact H
         have aC:=Aside0.mk ae
         clear ae
         have H':=Aside0.mk H
         clear H
         have ak:0≤(aa:Int):=of_decide_eq_true ‹_›
         have al:aa<(l0.length:Int):=of_decide_eq_true ‹_›
         obtain⟨aR,aJ,ag⟩:=Kd.at_int HR0.out aa ak al
         cases aJ
         replace ag:=(HB.out.cell (World.block_lt_of_cell? w _ ag)).trans ag
         replace ak:=eq_true ak
         replace al:=eq_true al
         go_wp2_with (first|((with_reducible refine gate_callee (f:=172) rfl ?_);refine kgl (some 28) rfl rfl Tryz.func172 #[.int .u64 af,.int .u64 (rd l0 aa),.int .u64 a1] rfl ?_;(with_reducible refine(bits_Div64.calls k1 af (rd l0 aa) a1 ah ai _ A10.out).mono ?_);rintro e w' ⟨rfl,⟨nd,rfl⟩⟩;refine⟨_,rfl,?_⟩;(try(rw[drewN_self wr];generalize hq_:World.drewN wr _=wr;have n0_:Aside0 (Kd.R (Kd.int .u64) 48 wr w.heap.size (fun k_=>(w.heap.size≤k_)) aq ab):=⟨by rw[←hq_];exact(kru ac.out)⟩;have n1_:Aside0 (Below w.heap.size w wr):=⟨by rw[←hq_];exact(khu HB.out)⟩;clear ac HB hq_;have ac:=n0_;have HB:=n1_;clear n0_ n1_));have p12:0≤(aa:Int):=of_decide_eq_true ‹_›;have q12:(aa:Int)<((ab.length:Int):Int):=of_decide_eq_true ‹_›;obtain⟨am,aK,au,av,aL,aU,aw⟩:=Kd.R_form ac.out Y0;(first|cases au|(injection au with ea_ en_ ec_;(first|subst ea_|(injection ea_ with ea_;subst ea_));subst ec_;clear en_));have aM:=Aside0.mk av;have aV:=Aside0.mk aw;clear av aL aw;obtain⟨aO,aP⟩:=Kd.R_celln 0 ac.out (aa:Int) p12 q12;replace p12:=eq_true p12;replace q12:=eq_true q12;obtain⟨hy13_,hz13_⟩:=Kd.R_celln 0 ac.out (aa:Int) (of_decide_eq_true ‹_›) (of_decide_eq_true ‹_›);have an:=Kd.R_putg ac.out (aa:Int) ah)|((with_reducible refine gate_store (t:=48) (p:=31) rfl ?_);refine store_event (t:=48) (p:=31) (v:=?vo_w14) (w1:=(wr.setCell ⟨am,(aa:Int).toNat,none⟩ (.int .u64 ah))) ?hg ?ho ?hn ?hr ?_;(case ho=>rfl);(case hg=>rfl);(case hn=>rfl);(case hr=>first|(go_simp;done)|(go_simp;rfl));intro w14 hw;have hg:wr.grownBy w14 (some am):=(by rw[hw];exact an.2);have hp_:Kd.R (Kd.int .u64) 48 w14 w.heap.size (fun k_=>(w.heap.size≤k_)) (.slice (some ⟨am,0,none⟩) ab.length aK) aj:=(by rw[hw,aC.out];exact an.1);clear an;replace ac:=Aside0.mk (hp_);replace HB:=Aside0.mk ((by rw[hw];exact below_set (HB.out) aM.out:Below w.heap.size w w14));clear hg hw hp_))
         go_roundg k1
         case measure=>have:=HK1.out;omega
         case rel=>exact⟨(aj),(ai),(wrap64 (aa-1)),F0,F0,H',⟨V3⟩,⟨kru ac.out⟩,⟨khu HB.out⟩⟩
        rw[if_neg c11]at H
        exact absurd H F1
       rw[if_neg c9]at H
       exact absurd H F1
      rw[if_neg c8]at H
      exact absurd H F1
     rw[if_neg c7]at H
     have aI:decide (0≤aa)=false:=decide_eq_false c7
     clear c7
     replace H:=Option.bind_eq_some_iff.mp H
     obtain⟨ax,ay,H⟩:=H
     replace H:(some (ax,af))=some (r1,r2):=H
     have A15:=Aside0.mk ay
     clear ay
     simp only[Option.some.injEq,Prod.mk.injEq]at H
     obtain⟨rfl,rfl⟩:=H
     obtain⟨az,aA,aN⟩:=Kd.R_slice ac.out
     subst aN
     go_wp2_with (first|((with_reducible refine gate_callee (f:=93) rfl ?_);refine kgl (some 33) rfl rfl Tryz.func93 #[.slice az ab.length aA] rfl ?_;(with_reducible refine(whole_trimmed.calls k1 (fun k_=>some k_=(.slice az ab.length aA:Value).ownBlock) _ _ ab ax _ ?side1 A15.out).mono ?_);(case side1=>exact Kd.R_V (Kd.R_tight rfl (ac.out)));rintro e w17 ⟨aW,rfl,ho0,hb⟩;refine⟨_,rfl,?_⟩;have aD:=Aside0.mk (Kd.V_lower (Kd.V_mono (ok':=fun k_=>(w.heap.size≤k_)) ho0 (fun k_ hk_=>Or.elim hk_ (fun hs_=>((ac.out).1 k_ hs_.symm)) (fun hn_=>(Nat.le_trans (below_size (khu HB.out)) hn_)))) (below_size (khu HB.out)));replace ac:=krb ac hb;replace HB:=kbs HB hb;(try clear hb);(try clear hb2);(try clear hk);(try clear hi);(try clear ho0)))
     go_ret2
     exact⟨_,Z1,kvu aD.out,khu HB.out⟩
  rw[if_neg c4]at H
  exact absurd H F1
 rw[if_neg c3]at H
 exact absurd H F1
end Go.Proofs.YtncomlmhagaajaaGreat.PBo
