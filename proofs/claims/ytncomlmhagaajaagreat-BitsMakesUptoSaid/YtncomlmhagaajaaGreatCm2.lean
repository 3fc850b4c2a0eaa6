/- Part 2 of what the card rests on. -/
import Derived.Test.YtncomlmhagaajaaGreatCm1
set_option maxHeartbeats 8000000
set_option maxRecDepth 100000
set_option linter.unusedVariables false
set_option linter.unusedSimpArgs false
namespace Go.Proofs.YtncomlmhagaajaaGreat.PBo
open Go.RowKit Go.Proofs.YtncomlmhagaajaaGreatW.PrintWords Go.Proofs.YtncomlmhagaajaaGreatW.PrintLast Go.Proofs.YtncomlmhagaajaaGreatW.PrintMore
open Go.Proofs.YtncomlmhagaajaaGreat.Mine
attribute [local go_sem] max2_int min2_int max_two min_two max_three min_three max_four min_four
def whole_number_cut.f (k:Nat) (l0_0:List Int) (a0_1:Bool) (l1_0:List Int) (a1_1:Bool):Option (List Int×Bool×List Int×Bool):=(whole_amount_quo.f k l0_0 l1_0).bind fun bt211=>((whole_signed.f bt211.1 (a0_1 != a1_1)).bind fun bt217=>((whole_signed.f bt211.2 a0_1).bind fun bt221=>(some (bt217.1,bt217.2,bt221.1,bt221.2))))
theorem whole_number_cut.mono:∀a0 a1 a2 a3 k,LeO (whole_number_cut.f k a0 a1 a2 a3) (whole_number_cut.f (k+1) a0 a1 a2 a3):=by
 intro a0 a1 a2 a3 k
 unfold whole_number_cut.f
 repeat' first
   | (with_reducible exact whole_amount_quo.mono _ _ _)
   | (with_reducible exact LeO.refl _)
   | (with_reducible exact LeO.none _)
   | (with_reducible refine LeO.ite ?_ ?_)
   | (with_reducible refine LeO.bind ?_ (fun _=>?_))
   | exact whole_amount_quo.mono _ _ _
   | exact LeO.none _
   | refine LeO.ite ?_ ?_
   | refine LeO.bind ?_ (fun _=>?_)
def whole_number_cut.T2:Bool×List (List Nat×List Nat):=(true,[([],[]),([],[]),([1],[1]),([],[]),([3],[3]),([2,4],[2,4]),([0,5],[0,5]),([],[]),([],[]),([8],[8]),([7,9,6],[7,9]),([6,10,0,1,2,3,4,5,6],[6]),([10,11,0,1,2,3,4,5,6,7,8,9,10,11],[10])])
def whole_number_cut.B2:List Nat:=[0,0,2,0,8,30,63,0,0,256,1023,2047,4095]
theorem whole_number_cut.tab2:rtab .any (opsOf Tryz.f142 2)=whole_number_cut.T2:=by kernel_rfl
theorem whole_number_cut.bits2:waitsOk whole_number_cut.T2.2 whole_number_cut.B2=true:=by kernel_rfl
theorem whole_number_cut.calls (k:Nat) (P0_0_:Nat→Prop) (ae:Option Addr) (af:Nat) (ab:List Int) (ac:Bool) (ag:Option Addr) (ah:Nat) (aa:List Int) (ad:Bool) (r1:List Int) (r2:Bool) (r3:List Int) (r4:Bool) (w:World) (ai:Kd.V (Kd.int .u64) 48 w w.heap.size (fun k_=>P0_0_ k_) (.slice ae ab.length af) ab) (aj:Kd.C (Kd.int .u64) w ag aa.length aa) (ak:aa.length≤ah) (h:whole_number_cut.f k ab ac aa ad=some (r1,r2,r3,r4)) :
  Calls Tryz.prog 142 #[.agg #[.slice ae ab.length af,.bool ac],.agg #[.slice ag aa.length ah,.bool ad]] w fun e w'=>∃v0_ v2_:Value,e=.returned (.tuple #[.agg #[v0_,.bool r2],.agg #[v2_,.bool r4]])∧Kd.V (Kd.int .u64) 48 w' w.heap.size (fun k_=>(P0_0_ k_∨w.heap.size≤k_)) v0_ r1∧Kd.V (Kd.int .u64) 48 w' w.heap.size (fun k_=>(P0_0_ k_∨w.heap.size≤k_)) v2_ r3∧Below w.heap.size w w':=by
 have ap:=Tryz.underlying90
 have K:=Kp.refl w
 replace K:=K.parV (Kd.V_mono (ok':=fun k=>P0_0_ k) ai (fun _ h=>h))
 clear ai
 replace K:=K.parV (Kd.V_mono (ok':=fun k=>k<w.heap.size) (Kd.V_mk (e:=48) (base:=0) ak (Kd.C_F (Kd.heap_int .u64) aj)) (fun _ h=>h))
 clear aj ak
 try simp only[klv]at K
 rw[whole_number_cut.f]at h
 replace h:=bindA h
 obtain⟨⟨x9,x10⟩,A11,h⟩:=h
 dsimp only at h
 go_enter Tryz.func142,Tryz.ntmps142
 go_wp2_with (first|(refine gd 2 rfl ?_;refine kbk 2 #[.slice ae ab.length af,.bool ac] 90 K.u ?_;clear K;intro g1 W2 K)|(refine gd 3 rfl ?_;refine kbk 3 #[.slice ag aa.length ah,.bool ad] 90 K.u ?_;clear K;intro g3 W4 K)|(refine gd 4 rfl ?_;refine kbk 4 #[.slice none 0 0,.bool false] 90 K.u ?_;clear K;intro g5 W6 K)|(refine gd 5 rfl ?_;refine kbk 5 #[.slice none 0 0,.bool false] 90 K.u ?_;clear K;intro g7 W8 K;obtain⟨ua0,ub0⟩:=K.cell2 0 rfl;obtain⟨ua1,ub1⟩:=K.cell2 1 rfl)|(refine gd 13 rfl ?_;clear ua0 ub0 ua1 ub1;refine kgl (some 13) rfl rfl Tryz.func160 #[.slice ae ab.length af,.slice ag aa.length ah] rfl ?_;refine(whole_amount_quo.calls _ _ _ _ ab _ _ aa x9 x10 _ (K.V 0 rfl) (K.C 1 rfl) (K.le 1 rfl) A11.out).mono ?_;rintro e W16 ⟨v12,v13,rfl,al,am,hb⟩;refine⟨_,rfl,?_⟩;have K1:=K.u.add (fun k=>P0_0_ k) hb al (fun _ h=>h);replace K:=K.u.more (fun k=>P0_0_ k) K1 am (fun _ h=>h);clear K1;clear hb al am;obtain⟨P17,c18,e19⟩:=K.slice 2 rfl;subst e19;obtain⟨P20,c21,e22⟩:=K.slice 3 rfl;subst e22))
 replace h:=bindA h
 obtain⟨⟨x23,z24⟩,A25,h⟩:=h
 dsimp only at h
 replace h:=bindA h
 obtain⟨⟨x26,z27⟩,A28,h⟩:=h
 dsimp only at h
 obtain⟨Bs,Vs,Os,hBs,hVs,hOs,K⟩:=K.abs
 have HS:Aside0 (∀l m o W,Kp w (Bs++l) m o W→W.cell? ⟨g1,0,none⟩=some (.slice ae ab.length af)∧W.cell? ⟨g1,1,none⟩=some (.bool ac)∧W.cell? ⟨g3,0,none⟩=some (.slice ag aa.length ah)∧W.cell? ⟨g3,1,none⟩=some (.bool ad)):=⟨fun l m o W K=>by rw[hBs.out]at K;exact⟨K.cell 0 rfl 0 rfl,K.cell 0 rfl 1 rfl,K.cell 1 rfl 0 rfl,K.cell 1 rfl 1 rfl⟩⟩
 refine kpstart (n:=13) (ds:=[]) (S:=fun W=>W.cell? ⟨g1,0,none⟩=some (.slice ae ab.length af)∧W.cell? ⟨g1,1,none⟩=some (.bool ac)∧W.cell? ⟨g3,0,none⟩=some (.slice ag aa.length ah)∧W.cell? ⟨g3,1,none⟩=some (.bool ad)) (bm_ 13 0) Y0 rfl rfl K (HS.out [] _ _) (fun W31 K hH=>?_)
 refine with_tabW whole_number_cut.tab2 whole_number_cut.bits2 (fun HT_ HW_=>?_)
 refine pu_ 0 16 ?_ (bm_ 13 1) rfl rfl (any_of HT_.out Y0) (fun _ _ _ h=>h) F0 ?_ ?_ ?_ ?_
 rotate_left
 ·intro w'
  go_simp
  with_reducible rfl
 rotate_left
 ·simp only[Act.put,kss,i64_w,i32_w]
  rfl
 refine pu_ 1 17 ?_ (bm_ 13 3) rfl rfl (any_of HT_.out Y0) (fun _ _ _ h=>h) F0 ?_ ?_ ?_ ?_
 rotate_left
 ·intro w'
  go_simp
  with_reducible rfl
 rotate_left
 ·simp only[Act.put,kss,i64_w,i32_w]
  rfl
 refine tk_ 2 18 ?_ (bm_ 13 7) rfl rfl (take_ofW HT_.out HW_.out Y0) (fun _ _ _ h=>h) F0 ?_ hH ?_ ?_ ?_
 rotate_left
 ·rintro w' ⟨s0,s1,s2,s3⟩
  go_simp
  with_reducible rfl
 rotate_left
 ·simp only[Act.put,kss,i64_w,i32_w]
  rfl
 refine pu_ 3 19 ?_ (bm_ 13 15) rfl rfl (any_of HT_.out Y0) (fun _ _ _ h=>h) F0 ?_ ?_ ?_ ?_
 rotate_left
 ·intro w'
  go_simp
  with_reducible rfl
 rotate_left
 ·simp only[Act.put,kss,i64_w,i32_w]
  rfl
 refine tk_ 4 20 ?_ (bm_ 13 31) rfl rfl (take_ofW HT_.out HW_.out Y0) (fun _ _ _ h=>h) F0 ?_ hH ?_ ?_ ?_
 rotate_left
 ·rintro w' ⟨s0,s1,s2,s3⟩
  go_simp
  with_reducible rfl
 rotate_left
 ·simp only[Act.put,kss,i64_w,i32_w]
  rfl
 refine pu_ 5 21 ?_ (bm_ 13 63) rfl rfl (any_of HT_.out Y0) (fun _ _ _ h=>h) F0 ?_ ?_ ?_ ?_
 rotate_left
 ·intro w'
  go_simp
  with_reducible rfl
 rotate_left
 ·simp only[Act.put,kss,i64_w,i32_w]
  rfl
 refine pu_ 7 23 ?_ (bm_ 13 191) rfl rfl (any_of HT_.out Y0) (fun _ _ _ h=>h) F0 ?_ ?_ ?_ ?_
 rotate_left
 ·intro w'
  go_simp
  with_reducible rfl
 rotate_left
 ·simp only[Act.put,kss,i64_w,i32_w]
  rfl
 refine pu_ 8 24 ?_ (bm_ 13 447) rfl rfl (any_of HT_.out Y0) (fun _ _ _ h=>h) F0 ?_ ?_ ?_ ?_
 rotate_left
 ·intro w'
  go_simp
  with_reducible rfl
 rotate_left
 ·simp only[Act.put,kss,i64_w,i32_w]
  rfl
 refine tk_ 9 25 ?_ (bm_ 13 959) rfl rfl (take_ofW HT_.out HW_.out Y0) (fun _ _ _ h=>h) F0 ?_ hH ?_ ?_ ?_
 rotate_left
 ·rintro w' ⟨s0,s1,s2,s3⟩
  go_simp
  with_reducible rfl
 rotate_left
 ·simp only[Act.put,kss,i64_w,i32_w]
  rfl
 refine one_ (i:=6) (N:=some 22) (bm_ 13 1023) rfl rfl (one_of HT_.out Y0) X0 (fun Kc hK=>?_)
 refine kgo Tryz.func144 #[.slice P17 x9.length c18,.bool (ac != ad)] F0 rfl rfl ?_
 refine(whole_signed.calls _ _ _ x9 (ac != ad) x23 z24 _ (K.V 2 (hv hVs rfl)) A25.out).mono ?_
 rintro e W' ⟨v29,rfl,an,hb⟩
 replace K:=K.addI 0 (fun k=>P0_0_ k) hb an (fun _ h=>h)
 clear hb an
 refine⟨_,rfl,hK.out _ _ (HS.out _ _ _ _ K) fun hH=>?_⟩
 clear hK Kc
 refine norm_ (a':=?_) ?_ ?_
 rotate_left
 ·show Act.put _ (some 22) _=_
  simp only[Act.put,kss,i64_w,i32_w]
  rfl
 refine one_ (i:=10) (N:=some 26) (bm_ 13 2047) rfl rfl (one_of HT_.out Y0) X0 (fun Kc hK=>?_)
 refine kgo Tryz.func144 #[.slice P20 x10.length c21,.bool ac] F0 rfl rfl ?_
 refine(whole_signed.calls _ _ _ x10 ac x26 z27 _ (K.V 3 (hv hVs rfl)) A28.out).mono ?_
 rintro e W' ⟨v30,rfl,ao,hb⟩
 replace K:=K.addI 1 (fun k=>P0_0_ k) hb ao (fun _ h=>h)
 clear hb ao
 refine⟨_,rfl,hK.out _ _ (HS.out _ _ _ _ K) fun hH=>?_⟩
 clear hK Kc
 refine norm_ (a':=?_) ?_ ?_
 rotate_left
 ·show Act.put _ (some 26) _=_
  simp only[Act.put,kss,i64_w,i32_w]
  rfl
 obtain⟨P34,c35,e36⟩:=K.slice 4 (hv hVs rfl)
 subst e36
 obtain⟨P37,c38,e39⟩:=K.slice 5 (hv hVs rfl)
 subst e39
 rw[hBs.out,hVs.out,hOs.out]at K
 simp only[kls,klv]at K
 clear hBs hVs hOs HS hH
 refine ko2 (i:=11) (bm_ 13 4095) 2 (.slice P34 x23.length c35) (.bool z24) K rfl rfl rfl (one_of HT_.out Y0) X0 F0 (fun W K=>⟨K.cell 0 rfl 0 rfl,K.cell 0 rfl 1 rfl,K.cell 1 rfl 0 rfl,K.cell 1 rfl 1 rfl⟩) ?_
 clear K
 intro W40 K
 simp only[kls,klv]at K
 refine ko2 (i:=12) (bm_ 13 8191) 3 (.slice P37 x26.length c38) (.bool z27) K rfl rfl rfl (one_of HT_.out Y0) X0 F0 (fun W K=>⟨K.cell 0 rfl 0 rfl,K.cell 0 rfl 1 rfl,K.cell 1 rfl 0 rfl,K.cell 1 rfl 1 rfl⟩) ?_
 clear K
 intro W41 K
 simp only[kls,klv]at K
 refine done_ (done_of HT_.out Y0) ?_
 clear HT_ HW_
 simp only[Option.some.injEq,Prod.mk.injEq]at h
 obtain⟨rfl,rfl,rfl,rfl⟩:=h
 go_wp2
 refine bodyPost_ret (results_list (rs:=[.cell 4 90,.cell 5 90]) rfl Z1 (.cell g5 90 #[.slice P34 x23.length c35,.bool z24] (0,0) _ rfl (K.u.heap 2 rfl) Tryz.underlying90 rfl Y0 (.cell g7 90 #[.slice P37 x26.length c38,.bool z27] (0,0) _ rfl (K.u.heap 3 rfl) Tryz.underlying90 rfl Y0 .nil))) rfl ?_
 exact⟨_,_,rfl,K.u.hand 4 rfl (fun k_ h=>h.elim (fun h=>.inl h) .inr),K.u.hand 5 rfl (fun k_ h=>h.elim (fun h=>.inl h) .inr),K.u.below⟩
def whole_number_out.f (l0_0:List Int) (a0_1:Bool):Option (Bool×List Int):=(api_Nat_uint64.f l0_0).bind fun t116=>(some (a0_1,t116))
theorem whole_number_out.calls (ai:Option Addr) (aj:Nat) (ae:List Int) (af:Bool) (r1:Bool) (r2:List Int) (w:World) (ak:Kd.C (Kd.int .u64) w ai ae.length ae) (al:ae.length≤aj) (h:whole_number_out.f ae af=some (r1,r2)) :
  Calls Tryz.prog 153 #[.agg #[.slice ai ae.length aj,.bool af]] w fun e w'=>∃v1_:Value,e=.returned (.agg #[.bool r1,v1_])∧Kd.R (Kd.int .u64) 48 w' w.heap.size (fun _=>True) v1_ r2∧Below w.heap.size w w':=by
 have aA:=Tryz.underlying90
 have aB:=Tryz.underlying43
 have ao:=Aside0.mk ak
 have ap:=Aside0.mk al
 clear ak al
 have HB:=Aside0.mk (Below.refl w.heap.size w)
 have H:((api_Nat_uint64.f ae).bind fun ag=>(some (af,ag)))=some (r1,r2):=h
 clear h
 replace H:=Option.bind_eq_some_iff.mp H
 obtain⟨ag,A20,H⟩:=H
 replace H:(some (af,ag))=some (r1,r2):=H
 have A2:=Aside0.mk A20
 clear A20
 simp only[Option.some.injEq,Prod.mk.injEq]at H
 obtain⟨rfl,rfl⟩:=H
 go_enter Tryz.func153,Tryz.ntmps153
 try go_wp2_with (first|(refine gd 1 rfl ?_;refine kbe 1 #[.slice ai ae.length aj,.bool af] 90 ?_;intro am hg w3 hbox hb;have aa:=Aside0.mk (hbox);have ay:=kbz hg HB;have aq:=kbz hg HB;replace HB:=kbs HB hb;clear hb hbox hg)|(refine gd 2 rfl ?_;refine kbe 2 #[.bool false,.slice none 0 0] 43 ?_;intro ad hg w4 hbox hb;have ac:=Aside0.mk (hbox);have az:=kbz hg HB;have ar:=kbz hg HB;replace HB:=kbs HB hb;have ab:=knl hg aa;have ah:=kng hg aa;replace aa:=kbb aa hb;clear hb hbox hg))
 replace aa:=Aside0.mk (blk_drew aa.out);replace ac:=Aside0.mk (blk_drew ac.out);replace HB:=Aside0.mk (below_drew1 HB.out)
 refine start_ (n:=7) (S:=fun w'=>w'.cell? ⟨am,0,none⟩=some (.slice ai ae.length aj)∧w'.cell? ⟨am,1,none⟩=some (.bool af)) (ds:=[]) (bm_ 7 0) Y0 rfl rfl ⟨(blk_cell aa.out 0).trans rfl,(blk_cell aa.out 1).trans rfl⟩ (fun hHeld=>?_)
 generalize w4.drew=w5 at aa ac HB hHeld ⊢
 refine pu_ 0 3 ?_ (bm_ 7 1) rfl rfl Y0 (fun _ _ _ h=>h) F0 ?_ ?_ ?_ ?_
 rotate_left
 ·intro w'
  go_simp
  with_reducible rfl
 rotate_left
 ·simp only[Act.put,kss,i64_w,i32_w]
  rfl
 refine pu_ 2 5 ?_ (bm_ 7 5) rfl rfl Y0 (fun _ _ _ h=>h) F0 ?_ ?_ ?_ ?_
 rotate_left
 ·intro w'
  go_simp
  with_reducible rfl
 rotate_left
 ·simp only[Act.put,kss,i64_w,i32_w]
  rfl
 refine tk_ 1 4 ?_ (bm_ 7 7) rfl rfl Y0 (fun _ _ _ h=>h) F0 ?_ hHeld ?_ ?_ ?_
 rotate_left
 ·rintro w' ⟨s0,s1⟩
  go_simp
  with_reducible rfl
 rotate_left
 ·simp only[Act.put,kss,i64_w,i32_w]
  rfl
 refine tk_ 3 6 ?_ (bm_ 7 15) rfl rfl Y0 (fun _ _ _ h=>h) F0 ?_ hHeld ?_ ?_ ?_
 rotate_left
 ·rintro w' ⟨s0,s1⟩
  go_simp
  with_reducible rfl
 rotate_left
 ·simp only[Act.put,kss,i64_w,i32_w]
  rfl
 refine one_ (i:=4) (N:=some 7) (bm_ 7 31) rfl rfl Y0 X0 (fun K hK=>?_)
 refine kgo Tryz.func91 #[.slice ai ae.length aj] F0 rfl rfl ?_
 with_reducible refine(api_Nat_uint64.calls _ _ ae ag _ ?side1 ?side2 A2.out).mono ?_
 (case side1=>repeat (first|exact(Kd.C_below ao.out HB.out)|(with_reducible refine Kd.C_alloc ?_ _)|(with_reducible refine Kd.C_drewN ?_ _)|(with_reducible refine Kd.C_drew ?_)))
 (case side2=>exact ap.out)
 rintro e w6 ⟨aC,rfl,ho0,hb⟩
 refine⟨_,rfl,?_⟩
 have an:=Aside0.mk (Kd.R_lower ho0 (below_size (khu HB.out)));replace aa:=kbb aa hb;replace ac:=kbb ac hb;replace HB:=kbs HB hb
 (try clear hb);(try clear hb2);(try clear hk);(try clear hi);(try clear ho0)
 obtain⟨Ao7,co7,eo7⟩:=Kd.R_slice an.out
 (first|subst eo7|(injection eo7 with f1_ f2_ f3_;have f4_:=f1_.symm;have f5_:=f3_.symm;clear f1_ f2_ f3_;subst f4_;subst f5_))
 refine hK.out _ _ ⟨(blk_cell aa.out 0).trans rfl,(blk_cell aa.out 1).trans rfl⟩ (fun hHeld=>?_)
 clear hK K
 refine norm_ (a':=?_) ?_ ?_
 rotate_left
 ·show Act.put _ (some 7) _=_
  simp only[Act.put,kss,i64_w,i32_w]
  rfl
 refine pu_ 5 8 ?_ (bm_ 7 63) rfl rfl Y0 (fun _ _ _ h=>h) F0 ?_ ?_ ?_ ?_
 rotate_left
 ·intro w'
  go_simp
  with_reducible rfl
 rotate_left
 ·simp only[Act.put,kss,i64_w,i32_w]
  rfl
 refine one_ (i:=6) (N:=none) (bm_ 7 127) rfl rfl Y0 X0 (fun K hK=>?_)
 have hs8:w6.cell? ⟨ad,0,none⟩=some (.bool false):=(blk_cell ac.out 0).trans rfl
 have aD:=blk_frozen ac.out 0
 have au:=ab.out
 have av:=ah.out
 have hs9:w6.cell? ⟨ad,1,none⟩=some (.slice none 0 0):=(blk_cell ac.out 1).trans rfl
 have aE:=blk_frozen ac.out 1
 have aw:=ab.out
 have ax:=ah.out
 refine skip_ (w1:=?_) F0 rfl ?_ ?_
 rotate_left
 ·go_simp
  rfl
 refine hK.out _ _ ⟨((cell_far (p:=⟨ad,_,none⟩) ab.out _).trans (((cell_far (p:=⟨ad,_,none⟩) ab.out _).trans (hHeld.1)))),((cell_far (p:=⟨ad,_,none⟩) ab.out _).trans (((cell_far (p:=⟨ad,_,none⟩) ab.out _).trans (hHeld.2))))⟩ (fun hHeld=>?_)
 clear hK K
 refine done_ Y0 ?_
 try go_wp2
 refine bodyPost_ret (results_cell_row rfl _ _ ad 43 #[.bool af,.slice Ao7 ag.length co7] (0,0) _ rfl (kpu #[.bool af,.slice none 0 0] 1 (kpu #[.bool false,.slice none 0 0] 0 (kbu ac.out))) Tryz.underlying43 rfl Y0) rfl ?_
 exact⟨_,D0,by(with_reducible repeat (first|apply Kd.R_alloc|apply Kd.R_drewN|apply Kd.R_drew));exact Kd.R_mono (Kd.R_far (p:=⟨ad,1,none⟩) (Kd.R_far (p:=⟨ad,0,none⟩) (Kd.R_types an.out ac.out X0) (fun _ hk=>hk.2) (.bool af)) (fun _ hk=>hk.2) (.slice Ao7 ag.length co7)) (fun _ hk=>trivial),by repeat (first|(with_reducible first|exact HB.out|apply below_alloc|apply pw_below_drewN|apply below_drew1|refine below_set ?_ aq.out|refine below_set ?_ ar.out)|exact HB.out)⟩
def whole_number_long.f (l0_0:List Int) (a0_1:Bool):Option (Bool):=some (decide ((l0_0.length:Int)>4096))
theorem whole_number_long.calls (A0_0:Option Addr) (c0_0:Nat) (l0_0:List Int) (a0_1:Bool) (r:Bool) (w:World) (hr0_0:Kd.C (Kd.int .u64) w A0_0 l0_0.length l0_0) (hc0_0:l0_0.length≤c0_0) (h:whole_number_long.f l0_0 a0_1=some r) :
  Calls Tryz.prog 163 #[.agg #[.slice A0_0 l0_0.length c0_0,.bool a0_1]] w fun e w'=>e=.returned (.bool r)∧Below w.heap.size w w':=by
 have hu90:=Tryz.underlying90
 have K:=Kp.refl w
 replace K:=K.parV (Kd.V_mono (ok':=fun _=>True) (Kd.V_mk (e:=48) (base:=0) hc0_0 (Kd.C_F (Kd.heap_int .u64) hr0_0)) (fun _ h=>trivial))
 clear hr0_0 hc0_0
 try simp only[klv]at K
 rw[whole_number_long.f]at h
 simp only[Option.some.injEq]at h
 subst h
 go_enter Tryz.func163,Tryz.ntmps163
 go_wp2_with (first|(refine gd 1 rfl ?_;refine kbk 1 #[.slice A0_0 l0_0.length c0_0,.bool a0_1] 90 K.u ?_;clear K;intro g1 W2 K;obtain⟨ua0,ub0⟩:=K.cell2 0 rfl))
 go_ret
 exact⟨rfl,K.u.below⟩
def whole_pair.j0:Nat→Bool→List Int→Bool→List Int→Bool→Option (Bool×List Int×Bool×List Int×Int)
 | 0,_,_,_,_,_=>none
 | k+1,x12,x227000,x227001,x228000,x228001=>if x12=true then(some (false,([]:List Int),false,([]:List Int),5)) else((whole_number_out.f x227000 x227001).bind fun bt232=>((whole_number_out.f x228000 x228001).bind fun bt236=>(some (bt232.1,bt232.2,bt236.1,bt236.2,0))))
def whole_pair.f (k:Nat) (l0_0:List Int) (a0_1:Bool) (l1_0:List Int) (a1_1:Bool):Option (Bool×List Int×Bool×List Int×Int):=(whole_number_long.f l0_0 a0_1).bind fun t230=>(if t230=true then(whole_pair.j0 k true l0_0 a0_1 l1_0 a1_1) else((whole_number_long.f l1_0 a1_1).bind fun t231=>(whole_pair.j0 k t231 l0_0 a0_1 l1_0 a1_1)))
theorem whole_pair.mono_l:∀k,(∀y0 y1 y2 y3 y4,LeO (whole_pair.j0 k y0 y1 y2 y3 y4) (whole_pair.j0 (k+1) y0 y1 y2 y3 y4))
 | 0=>fun _ _ _ _ _ r h=>by simp[whole_pair.j0]at h
 | k+1=>by
  have ih0:=whole_pair.mono_l k
  intro y0 y1 y2 y3 y4
  unfold whole_pair.j0
  repeat' first
  | (with_reducible exact ih0 _ _ _ _ _)
  | (with_reducible exact LeO.refl _)
  | (with_reducible exact LeO.none _)
  | (with_reducible refine LeO.ite ?_ ?_)
  | (with_reducible refine LeO.bind ?_ (fun _=>?_))
  | exact ih0 _ _ _ _ _
  | exact LeO.none _
  | refine LeO.ite ?_ ?_
  | refine LeO.bind ?_ (fun _=>?_)
theorem whole_pair.mono:∀a0 a1 a2 a3 k,LeO (whole_pair.f k a0 a1 a2 a3) (whole_pair.f (k+1) a0 a1 a2 a3):=by
 intro a0 a1 a2 a3 k
 have ih0:=whole_pair.mono_l k
 unfold whole_pair.f
 repeat' first
   | (with_reducible exact ih0 _ _ _ _ _)
   | (with_reducible exact LeO.refl _)
   | (with_reducible exact LeO.none _)
   | (with_reducible refine LeO.ite ?_ ?_)
   | (with_reducible refine LeO.bind ?_ (fun _=>?_))
   | exact ih0 _ _ _ _ _
   | exact LeO.none _
   | refine LeO.ite ?_ ?_
   | refine LeO.bind ?_ (fun _=>?_)
theorem whole_pair.calls (k:Nat) (ae:Option Addr) (af:Nat) (aa:List Int) (ac:Bool) (ag:Option Addr) (ah:Nat) (ab:List Int) (ad:Bool) (r1:Bool) (r2:List Int) (r3:Bool) (r4:List Int) (r5:Int) (w:World) (ai:Kd.C (Kd.int .u64) w ae aa.length aa) (aj:aa.length≤af) (ak:Kd.C (Kd.int .u64) w ag ab.length ab) (al:ab.length≤ah) (h:whole_pair.f k aa ac ab ad=some (r1,r2,r3,r4,r5)) :
  Calls Tryz.prog 147 #[.agg #[.slice ae aa.length af,.bool ac],.agg #[.slice ag ab.length ah,.bool ad]] w fun e w'=>∃v1_ v3_:Value,e=.returned (.tuple #[.agg #[.bool r1,v1_],.agg #[.bool r3,v3_],.int .i64 r5])∧Kd.R (Kd.int .u64) 48 w' w.heap.size (fun k_=>some k_≠(v3_:Value).ownBlock) v1_ r2∧Kd.R (Kd.int .u64) 48 w' w.heap.size (fun k_=>some k_≠(v1_:Value).ownBlock) v3_ r4∧Below w.heap.size w w':=by
 have ao:=Tryz.underlying43
 have ap:=Tryz.underlying90
 have K:=Kp.refl w
 replace K:=K.parV (Kd.V_mono (ok':=fun _=>True) (Kd.V_mk (e:=48) (base:=0) aj (Kd.C_F (Kd.heap_int .u64) ai)) (fun _ h=>trivial))
 clear ai aj
 replace K:=K.parV (Kd.V_mono (ok':=fun _=>True) (Kd.V_mk (e:=48) (base:=0) al (Kd.C_F (Kd.heap_int .u64) ak)) (fun _ h=>trivial))
 clear ak al
 try simp only[klv]at K
 rw[whole_pair.f]at h
 replace h:=bindA h
 obtain⟨z9,A10,h⟩:=h
 by_cases c_0:z9=true
 ·subst c_0
  rw[if_pos rfl]at h
  obtain⟨k,rfl⟩:∃j,k=j+1:=by
   cases k with
   | zero=>simp[whole_pair.j0]at h
   | succ k=>exact⟨k,rfl⟩
  rw[whole_pair.j0]at h
  rw[if_pos rfl]at h
  simp only[Option.some.injEq,Prod.mk.injEq]at h
  obtain⟨rfl,rfl,rfl,rfl,rfl⟩:=h
  go_enter Tryz.func147,Tryz.ntmps147
  go_wp2_with (first|(refine gd 2 rfl ?_;refine kbk 2 #[.slice ae aa.length af,.bool ac] 90 K.u ?_;clear K;intro g1 W2 K)|(refine gd 3 rfl ?_;refine kbk 3 #[.slice ag ab.length ah,.bool ad] 90 K.u ?_;clear K;intro g3 W4 K)|(refine gd 4 rfl ?_;refine kbk 4 #[.bool false,.slice none 0 0] 43 K.u ?_;clear K;intro g5 W6 K)|(refine gd 5 rfl ?_;refine kbk 5 #[.bool false,.slice none 0 0] 43 K.u ?_;clear K;intro g7 W8 K;obtain⟨ua0,ub0⟩:=K.cell2 0 rfl)|(refine gd 8 rfl ?_;clear ua0 ub0;refine kgl (some 8) rfl rfl Tryz.func163 #[.agg #[.slice ae aa.length af,.bool ac]] rfl ?_;refine(whole_number_long.calls _ _ aa ac true _ (K.C 0 rfl) (K.le 0 rfl) A10.out).mono ?_;rintro e W11 ⟨rfl,hb⟩;refine⟨_,rfl,?_⟩;replace K:=K.u.up hb;clear hb)|(refine gs 43 4 13 rfl ?_;refine ks2 2 (.bool false) (.slice none 0 0) K.u rfl ?_;clear K;intro W12 K;simp only[kls,klv]at K)|(refine gs 43 5 14 rfl ?_;refine ks2 3 (.bool false) (.slice none 0 0) K.u rfl ?_;clear K;intro W14 K;simp only[kls,klv]at K))
  refine bodyPost_ret (results_list (rs:=[.cell 4 43,.cell 5 43,.tmp 6]) rfl Z1 (.cell g5 43 #[.bool false,.slice none 0 0] (0,0) _ rfl (K.u.heap 2 rfl) Tryz.underlying43 rfl Y0 (.cell g7 43 #[.bool false,.slice none 0 0] (0,0) _ rfl (K.u.heap 3 rfl) Tryz.underlying43 rfl Y0 (.tmp .nil)))) rfl ?_
  exact⟨_,_,rfl,Kd.R_nil _ _ _ _ _,Kd.R_nil _ _ _ _ _,K.u.below⟩
 replace c_0:=Bool.eq_false_iff.mpr c_0
 subst c_0
 rw[if_neg X0]at h
 replace h:=bindA h
 obtain⟨z12,A13,h⟩:=h
 obtain⟨k,rfl⟩:∃j,k=j+1:=by
  cases k with
  | zero=>simp[whole_pair.j0]at h
  | succ k=>exact⟨k,rfl⟩
 rw[whole_pair.j0]at h
 by_cases c_1:z12=true
 ·subst c_1
  rw[if_pos rfl]at h
  simp only[Option.some.injEq,Prod.mk.injEq]at h
  obtain⟨rfl,rfl,rfl,rfl,rfl⟩:=h
  go_enter Tryz.func147,Tryz.ntmps147
  go_wp2_with (first|(refine gd 2 rfl ?_;refine kbk 2 #[.slice ae aa.length af,.bool ac] 90 K.u ?_;clear K;intro g1 W2 K)|(refine gd 3 rfl ?_;refine kbk 3 #[.slice ag ab.length ah,.bool ad] 90 K.u ?_;clear K;intro g3 W4 K)|(refine gd 4 rfl ?_;refine kbk 4 #[.bool false,.slice none 0 0] 43 K.u ?_;clear K;intro g5 W6 K)|(refine gd 5 rfl ?_;refine kbk 5 #[.bool false,.slice none 0 0] 43 K.u ?_;clear K;intro g7 W8 K;obtain⟨ua0,ub0⟩:=K.cell2 0 rfl)|(refine gd 8 rfl ?_;clear ua0 ub0;refine kgl (some 8) rfl rfl Tryz.func163 #[.agg #[.slice ae aa.length af,.bool ac]] rfl ?_;refine(whole_number_long.calls _ _ aa ac false _ (K.C 0 rfl) (K.le 0 rfl) A10.out).mono ?_;rintro e W11 ⟨rfl,hb⟩;refine⟨_,rfl,?_⟩;replace K:=K.u.up hb;clear hb;obtain⟨ua1,ub1⟩:=K.cell2 1 rfl)|(refine gd 11 rfl ?_;clear ua1 ub1;refine gate_guard F0 ?_;refine kgl (some 11) rfl rfl Tryz.func163 #[.agg #[.slice ag ab.length ah,.bool ad]] rfl ?_;refine(whole_number_long.calls _ _ ab ad true _ (K.C 1 rfl) (K.le 1 rfl) A13.out).mono ?_;rintro e W14 ⟨rfl,hb⟩;refine⟨_,rfl,?_⟩;replace K:=K.u.up hb;clear hb)|(refine gs 43 4 13 rfl ?_;refine ks2 2 (.bool false) (.slice none 0 0) K.u rfl ?_;clear K;intro W15 K;simp only[kls,klv]at K)|(refine gs 43 5 14 rfl ?_;refine ks2 3 (.bool false) (.slice none 0 0) K.u rfl ?_;clear K;intro W17 K;simp only[kls,klv]at K))
  refine bodyPost_ret (results_list (rs:=[.cell 4 43,.cell 5 43,.tmp 6]) rfl Z1 (.cell g5 43 #[.bool false,.slice none 0 0] (0,0) _ rfl (K.u.heap 2 rfl) Tryz.underlying43 rfl Y0 (.cell g7 43 #[.bool false,.slice none 0 0] (0,0) _ rfl (K.u.heap 3 rfl) Tryz.underlying43 rfl Y0 (.tmp .nil)))) rfl ?_
  exact⟨_,_,rfl,Kd.R_nil _ _ _ _ _,Kd.R_nil _ _ _ _ _,K.u.below⟩
 replace c_1:=Bool.eq_false_iff.mpr c_1
 subst c_1
 rw[if_neg X0]at h
 go_enter Tryz.func147,Tryz.ntmps147
 go_wp2_with (first|(refine gd 2 rfl ?_;refine kbk 2 #[.slice ae aa.length af,.bool ac] 90 K.u ?_;clear K;intro g1 W2 K)|(refine gd 3 rfl ?_;refine kbk 3 #[.slice ag ab.length ah,.bool ad] 90 K.u ?_;clear K;intro g3 W4 K)|(refine gd 4 rfl ?_;refine kbk 4 #[.bool false,.slice none 0 0] 43 K.u ?_;clear K;intro g5 W6 K)|(refine gd 5 rfl ?_;refine kbk 5 #[.bool false,.slice none 0 0] 43 K.u ?_;clear K;intro g7 W8 K;obtain⟨ua0,ub0⟩:=K.cell2 0 rfl)|(refine gd 8 rfl ?_;clear ua0 ub0;refine kgl (some 8) rfl rfl Tryz.func163 #[.agg #[.slice ae aa.length af,.bool ac]] rfl ?_;refine(whole_number_long.calls _ _ aa ac false _ (K.C 0 rfl) (K.le 0 rfl) A10.out).mono ?_;rintro e W11 ⟨rfl,hb⟩;refine⟨_,rfl,?_⟩;replace K:=K.u.up hb;clear hb;obtain⟨ua1,ub1⟩:=K.cell2 1 rfl)|(refine gd 11 rfl ?_;clear ua1 ub1;refine gate_guard F0 ?_;refine kgl (some 11) rfl rfl Tryz.func163 #[.agg #[.slice ag ab.length ah,.bool ad]] rfl ?_;refine(whole_number_long.calls _ _ ab ad false _ (K.C 1 rfl) (K.le 1 rfl) A13.out).mono ?_;rintro e W14 ⟨rfl,hb⟩;refine⟨_,rfl,?_⟩;replace K:=K.u.up hb;clear hb))
 replace h:=bindA h
 obtain⟨⟨z15,x16⟩,A17,h⟩:=h
 dsimp only at h
 replace h:=bindA h
 obtain⟨⟨z18,x19⟩,A20,h⟩:=h
 dsimp only at h
 obtain⟨Bs,Vs,Os,hBs,hVs,hOs,K⟩:=K.abs
 have HS:Aside0 (∀l m o W,Kp w (Bs++l) m o W→W.cell? ⟨g1,0,none⟩=some (.slice ae aa.length af)∧W.cell? ⟨g1,1,none⟩=some (.bool ac)∧W.cell? ⟨g3,0,none⟩=some (.slice ag ab.length ah)∧W.cell? ⟨g3,1,none⟩=some (.bool ad)):=⟨fun l m o W K=>by rw[hBs.out]at K;exact⟨K.cell 0 rfl 0 rfl,K.cell 0 rfl 1 rfl,K.cell 1 rfl 0 rfl,K.cell 1 rfl 1 rfl⟩⟩
 refine kpstart (n:=7) (ds:=[]) (S:=fun W=>W.cell? ⟨g1,0,none⟩=some (.slice ae aa.length af)∧W.cell? ⟨g1,1,none⟩=some (.bool ac)∧W.cell? ⟨g3,0,none⟩=some (.slice ag ab.length ah)∧W.cell? ⟨g3,1,none⟩=some (.bool ad)) (bm_ 7 0) Y0 rfl rfl K (HS.out [] _ _) (fun W23 K hH=>?_)
 refine tk_ 0 15 ?_ (bm_ 7 1) rfl rfl Y0 (fun _ _ _ h=>h) F0 ?_ hH ?_ ?_ ?_
 rotate_left
 ·rintro w' ⟨s0,s1,s2,s3⟩
  go_simp
  with_reducible rfl
 rotate_left
 ·simp only[Act.put,kss,i64_w,i32_w]
  rfl
 refine tk_ 2 17 ?_ (bm_ 7 5) rfl rfl Y0 (fun _ _ _ h=>h) F0 ?_ hH ?_ ?_ ?_
 rotate_left
 ·rintro w' ⟨s0,s1,s2,s3⟩
  go_simp
  with_reducible rfl
 rotate_left
 ·simp only[Act.put,kss,i64_w,i32_w]
  rfl
 refine one_ (i:=1) (N:=some 16) (bm_ 7 7) rfl rfl Y0 X0 (fun Kc hK=>?_)
 refine kgo Tryz.func153 #[.agg #[.slice ae aa.length af,.bool ac]] F0 rfl rfl ?_
 refine(whole_number_out.calls _ _ aa ac z15 x16 _ (K.C 0 (hv hVs rfl)) (K.le 0 (hv hVs rfl)) A17.out).mono ?_
 rintro e W' ⟨v21,rfl,am,hb⟩
 replace K:=K.addRI 0 0 hb am (lb rfl)
 clear hb am
 refine⟨_,rfl,hK.out _ _ (HS.out _ _ _ _ K) fun hH=>?_⟩
 clear hK Kc
 refine norm_ (a':=?_) ?_ ?_
 rotate_left
 ·show Act.put _ (some 16) _=_
  simp only[Act.put,kss,i64_w,i32_w]
  rfl
 refine one_ (i:=3) (N:=some 18) (bm_ 7 15) rfl rfl Y0 X0 (fun Kc hK=>?_)
 refine kgo Tryz.func153 #[.agg #[.slice ag ab.length ah,.bool ad]] F0 rfl rfl ?_
 refine(whole_number_out.calls _ _ ab ad z18 x19 _ (K.C 1 (hv hVs rfl)) (K.le 1 (hv hVs rfl)) A20.out).mono ?_
 rintro e W' ⟨v22,rfl,an,hb⟩
 replace K:=K.addRI 1 1 hb an (lb rfl)
 clear hb an
 refine⟨_,rfl,hK.out _ _ (HS.out _ _ _ _ K) fun hH=>?_⟩
 clear hK Kc
 refine norm_ (a':=?_) ?_ ?_
 rotate_left
 ·show Act.put _ (some 18) _=_
  simp only[Act.put,kss,i64_w,i32_w]
  rfl
 obtain⟨P26,c27,e28⟩:=K.slice 2 (hv hVs rfl)
 subst e28
 obtain⟨P29,c30,e31⟩:=K.slice 3 (hv hVs rfl)
 subst e31
 rw[hBs.out,hVs.out,hOs.out]at K
 simp only[kls,klv]at K
 clear hBs hVs hOs HS hH
 refine ko2 (i:=4) (bm_ 7 31) 2 (.bool z15) (.slice P26 x16.length c27) K rfl rfl rfl Y0 X0 F0 (fun W K=>⟨K.cell 0 rfl 0 rfl,K.cell 0 rfl 1 rfl,K.cell 1 rfl 0 rfl,K.cell 1 rfl 1 rfl⟩) ?_
 clear K
 intro W32 K
 simp only[kls,klv]at K
 refine ko2 (i:=5) (bm_ 7 63) 3 (.bool z18) (.slice P29 x19.length c30) K rfl rfl rfl Y0 X0 F0 (fun W K=>⟨K.cell 0 rfl 0 rfl,K.cell 0 rfl 1 rfl,K.cell 1 rfl 0 rfl,K.cell 1 rfl 1 rfl⟩) ?_
 clear K
 intro W33 K
 simp only[kls,klv]at K
 refine pu_ 6 6 ?_ (bm_ 7 127) rfl rfl Y0 (fun _ _ _ h=>h) F0 ?_ ?_ ?_ ?_
 rotate_left
 ·intro w'
  go_simp
  with_reducible rfl
 rotate_left
 ·simp only[Act.put,kss,i64_w,i32_w]
  rfl
 refine done_ Y0 ?_
 simp only[Option.some.injEq,Prod.mk.injEq]at h
 obtain⟨rfl,rfl,rfl,rfl,rfl⟩:=h
 go_wp2
 refine bodyPost_ret (results_list (rs:=[.cell 4 43,.cell 5 43,.tmp 6]) rfl Z1 (.cell g5 43 #[.bool z15,.slice P26 x16.length c27] (0,0) _ rfl (K.u.heap 2 rfl) Tryz.underlying43 rfl Y0 (.cell g7 43 #[.bool z18,.slice P29 x19.length c30] (0,0) _ rfl (K.u.heap 3 rfl) Tryz.underlying43 rfl Y0 (.tmp .nil)))) rfl ?_
 exact⟨_,_,rfl,K.u.Rne 0 rfl rfl fun k_ h_=>K.apart 0 1 rfl rfl X0 k_ h_,K.u.Rne 1 rfl rfl fun k_ h_=>K.apart 1 0 rfl rfl X0 k_ h_,K.u.below⟩
mutual
def whole_amount_plus.j0:Nat→List Int→List Int→Option (List Int)
 | 0,_,_=>none
 | k+1,x0,x1=>if 0≤(wrap64 ((x0.length:Int)+1)) then(if(wrap64 ((x0.length:Int)+1):Int).toNat≤35184372088832 then(whole_amount_plus.l0 k x0 x1 (([]:List Int)) 0 (x0.length:Int) 0) else(none)) else(none)
def whole_amount_plus.l0:Nat→List Int→List Int→List Int→Int→Int→Int→Option (List Int)
 | 0,_,_,_,_,_,_=>none
 | k+1,x0,x1,x5,x6,x23,x24=>if x24<x23 then(if x24<(x1.length:Int) then(if 0≤x24 then(if x24<(x0.length:Int) then((bits_Add64.f (rd x0 x24) (rd x1 x24) x6).bind fun bt341=>(if x5.length<17592186044416 then(whole_amount_plus.l0 k x0 x1 (x5++[bt341.1]) bt341.2 x23 (wrap64 (x24+1))) else(none))) else(none)) else(none)) else(if 0≤x24 then(if x24<(x0.length:Int) then((bits_Add64.f (rd x0 x24) 0 x6).bind fun bt347=>(if x5.length<17592186044416 then(whole_amount_plus.l0 k x0 x1 (x5++[bt347.1]) bt347.2 x23 (wrap64 (x24+1))) else(none))) else(none)) else(none))) else(if x5.length<17592186044416 then((whole_trimmed.f k (x5++[x6])).bind fun t355=>(some t355)) else(none))
end
def whole_amount_plus.f (k:Nat) (l0:List Int) (l1:List Int):Option (List Int):=if(l0.length:Int)<(l1.length:Int) then(whole_amount_plus.j0 k l1 l0) else(whole_amount_plus.j0 k l0 l1)
theorem whole_amount_plus.mono_l:∀k,(∀y0 y1,LeO (whole_amount_plus.j0 k y0 y1) (whole_amount_plus.j0 (k+1) y0 y1))∧(∀y0 y1 y2 y3 y4 y5,LeO (whole_amount_plus.l0 k y0 y1 y2 y3 y4 y5) (whole_amount_plus.l0 (k+1) y0 y1 y2 y3 y4 y5))
 | 0=>⟨fun _ _ r h=>by simp[whole_amount_plus.j0]at h,fun _ _ _ _ _ _ r h=>by simp[whole_amount_plus.l0]at h⟩
 | k+1=>by
  obtain⟨ih0,ih1⟩:=whole_amount_plus.mono_l k
  refine⟨?_,?_⟩
  ·intro y0 y1
   unfold whole_amount_plus.j0
   repeat' first
   | (with_reducible exact ih0 _ _)
   | (with_reducible exact ih1 _ _ _ _ _ _)
   | (with_reducible exact whole_trimmed.mono _ _)
   | (with_reducible exact LeO.refl _)
   | (with_reducible exact LeO.none _)
   | (with_reducible refine LeO.ite ?_ ?_)
   | (with_reducible refine LeO.bind ?_ (fun _=>?_))
   | exact ih0 _ _
   | exact ih1 _ _ _ _ _ _
   | exact whole_trimmed.mono _ _
   | exact LeO.none _
   | refine LeO.ite ?_ ?_
   | refine LeO.bind ?_ (fun _=>?_)
  intro y0 y1 y2 y3 y4 y5
  unfold whole_amount_plus.l0
  repeat' first
  | (with_reducible exact ih0 _ _)
  | (with_reducible exact ih1 _ _ _ _ _ _)
  | (with_reducible exact whole_trimmed.mono _ _)
  | (with_reducible exact LeO.refl _)
  | (with_reducible exact LeO.none _)
  | (with_reducible refine LeO.ite ?_ ?_)
  | (with_reducible refine LeO.bind ?_ (fun _=>?_))
  | exact ih0 _ _
  | exact ih1 _ _ _ _ _ _
  | exact whole_trimmed.mono _ _
  | exact LeO.none _
  | refine LeO.ite ?_ ?_
  | refine LeO.bind ?_ (fun _=>?_)
theorem whole_amount_plus.mono:∀a0 a1 k,LeO (whole_amount_plus.f k a0 a1) (whole_amount_plus.f (k+1) a0 a1):=by
 intro a0 a1 k
 obtain⟨ih0,ih1⟩:=whole_amount_plus.mono_l k
 unfold whole_amount_plus.f
 repeat' first
   | (with_reducible exact ih0 _ _)
   | (with_reducible exact ih1 _ _ _ _ _ _)
   | (with_reducible exact whole_trimmed.mono _ _)
   | (with_reducible exact LeO.refl _)
   | (with_reducible exact LeO.none _)
   | (with_reducible refine LeO.ite ?_ ?_)
   | (with_reducible refine LeO.bind ?_ (fun _=>?_))
   | exact ih0 _ _
   | exact ih1 _ _ _ _ _ _
   | exact whole_trimmed.mono _ _
   | exact LeO.none _
   | refine LeO.ite ?_ ?_
   | refine LeO.bind ?_ (fun _=>?_)
theorem whole_amount_plus.calls (k:Nat) (P0_:Nat→Prop) (A0:Option Addr) (c0:Nat) (l0:List Int) (P1_:Nat→Prop) (A1:Option Addr) (c1:Nat) (l1:List Int) (r:List Int) (w:World) (hs0:Kd.V (Kd.int .u64) 48 w w.heap.size (fun k_=>P0_ k_) (.slice A0 l0.length c0) l0) (hs1:Kd.V (Kd.int .u64) 48 w w.heap.size (fun k_=>P1_ k_) (.slice A1 l1.length c1) l1) (h:whole_amount_plus.f k l0 l1=some r) :
  Calls Tryz.prog 161 #[.slice A0 l0.length c0,.slice A1 l1.length c1] w fun e w'=>∃v0_:Value,e=.returned (v0_)∧Kd.V (Kd.int .u64) 48 w' w.heap.size (fun k_=>((P0_ k_∨P1_ k_)∨w.heap.size≤k_)) v0_ r∧Below w.heap.size w w':=by
 have HO0:=Aside0.mk (show Kd.V (Kd.int .u64) 48 w w.heap.size (fun k_=>((P0_ k_∨P1_ k_)∨w.heap.size≤k_)) (.slice A0 l0.length c0) l0 from Kd.V_mono hs0 (fun k_ hk=>.inl (.inl hk)))
 have HO1:=Aside0.mk (show Kd.V (Kd.int .u64) 48 w w.heap.size (fun k_=>((P0_ k_∨P1_ k_)∨w.heap.size≤k_)) (.slice A1 l1.length c1) l1 from Kd.V_mono hs1 (fun k_ hk=>.inl (.inr hk)))
 have HB:=Aside0.mk (Below.refl w.heap.size w)
 have H:(if(l0.length:Int)<(l1.length:Int) then(whole_amount_plus.j0 k l1 l0) else(whole_amount_plus.j0 k l0 l1))=some r:=h
 clear h
 have HC3:=Aside0.mk H
 clear H
 go_enter Tryz.func161,Tryz.ntmps161
 go_upto_if 15 with(fail)
 go_cut [0,1] (fun v0 v1 wc=>∃(kq:Nat) (ab:List Int) (af:List Int),Aside0 (whole_amount_plus.j0 kq ab af=some r)∧Aside0 (kq≤k)∧Aside0 (Kd.V (Kd.int .u64) 48 wc w.heap.size (fun k_=>((P0_ k_∨P1_ k_)∨w.heap.size≤k_)) v0 ab)∧Aside0 (Kd.V (Kd.int .u64) 48 wc w.heap.size (fun k_=>((P0_ k_∨P1_ k_)∨w.heap.size≤k_)) v1 af)∧Aside0 (Below w.heap.size w wc))
 case first=>
  have H:=HC3.out
  clear HC3
  by_cases c4:(l0.length:Int)<(l1.length:Int)
  ·rw[if_pos c4]at H
   have ag:decide ((l0.length:Int)<(l1.length:Int))=true:=decide_eq_true c4
   have ap:decide (l0.length<l1.length)=true:=decide_eq_true (Int.ofNat_lt.mp c4)
   clear c4
   (first|rw[ag]|rw[ap]|(simp only[i64_w,i32_w];rw[ag])|skip)
   have H':=Aside0.mk H
   clear H
   go_wp2
   go_meet
   case rel=>exact⟨_,(l1),(l0),H',⟨U3⟩,⟨kvu HO1.out⟩,⟨kvu HO0.out⟩,⟨khu HB.out⟩⟩
  rw[if_neg c4]at H
  have ag:decide ((l0.length:Int)<(l1.length:Int))=false:=decide_eq_false c4
  have ap:decide (l0.length<l1.length)=false:=decide_eq_false (fun h=>c4 (Int.ofNat_lt.mpr h))
  clear c4
  (first|rw[ag]|rw[ap]|(simp only[i64_w,i32_w];rw[ag])|skip)
  have H':=Aside0.mk H
  clear H
  go_wp2
  go_meet
  case rel=>exact⟨_,(l0),(l1),H',⟨U3⟩,⟨kvu HO0.out⟩,⟨kvu HO1.out⟩,⟨khu HB.out⟩⟩
 case rest =>
  clear HC3
  try clear c1
  try clear p2
  try clear c4
  try clear ag
  try clear ap
  obtain⟨kq,ab,af,HA,HJ2,ac,ad,HB⟩:=hcut
  cases kq with
  | zero=>exact absurd HA.out (by simp[whole_amount_plus.j0])
  | succ kj2=>
   have H:=HA.out
   clear HA
   simp only[whole_amount_plus.j0]at H
   obtain⟨ji5,hji5⟩:∃j_:Int,(wrap64 ((ab.length:Int)+1))=j_:=⟨_,rfl⟩
   replace H:(if 0≤(ji5) then(if(ji5:Int).toNat≤35184372088832 then(whole_amount_plus.l0 kj2 ab af (([]:List Int)) 0 (ab.length:Int) 0) else(none)) else(none))=some r:=by first|(rw[hji5]at H;exact H)|(simp only[hji5]at H ⊢;exact H)
   have bw:(IntKind.i64.wrap ((ab.length:Int)+1))=ji5:=(i64_w _).trans hji5
   by_cases c6:0≤(ji5)
   ·rw [if_pos c6]at H
    have bg:=eq_true c6
    have bh:decide (0≤(ji5))=true:=decide_eq_true c6
    clear c6
    by_cases c7:(ji5:Int).toNat≤35184372088832
    ·rw [if_pos c7]at H
     have bi:=eq_true c7
     have bj:decide ((ji5:Int).toNat≤35184372088832)=true:=decide_eq_true c7
     clear c7
     obtain⟨aH,ai⟩:∃y_:List Int,y_=(([]:List Int)):=⟨_,rfl⟩
     replace H:(whole_amount_plus.l0 kj2 ab af aH 0 (ab.length:Int) 0)=some r:=by first|(rw[ai];with_reducible exact H)|(have H2_:=(Option.bind_some _ _).symm.trans H;rw[ai];with_reducible exact H2_)|(have H2_:=(Option.bind_some _ _).symm.trans H;with_reducible exact H2_)|with_reducible exact H|(rw[ai];exact H)|exact H
     have aG:=Aside0.mk ai
     clear ai
     have H':=Aside0.mk H
     clear H
     obtain⟨Ao8,co8,eo8⟩:=Kd.V_slice ac.out
     subst eo8
     go_wp2_with (first|(refine gd 21 rfl ?_;refine Kd.R_make0 (Kd.int .u64) _ 48 rfl (N:=21) rfl 25 _ _ rfl ji5 rfl rfl Tryz.underlying25 (.int .u64 0) 8 info48 rfl X0 Z0 0 (ok:=fun _=>True) (okp:=fun _=>True) rfl (fun _ hk=>hk) trivial (of_decide_eq_true ‹_›) (Nat.le_trans (Nat.mul_le_mul_right _ (of_decide_eq_true ‹_›:ji5.toNat≤35184372088832)) Z0) (Below.refl _ _) (Nat.le_refl _) ?_;intro bF w9 ah hb hg_ hnew_;clear hg_ hnew_;(first|rw[←aG.out]at ah|(simp only[Int.reduceToNat]at ah;rw[←aG.out]at ah));replace ac:=Aside0.mk (Kd.V_elder' (kvu ac.out) (Kd.R_base ah) hb);replace ad:=Aside0.mk (Kd.V_elder' (kvu ad.out) (Kd.R_base ah) hb);have aT:=Aside0.mk (Kd.R_lower (Kd.R_newM (M:=fun k_=>(w.heap.size≤k_)) ah (below_size (khu HB.out)) (fun k_ h_=>h_)) (below_size (khu HB.out)));replace HB:=kbs HB hb;clear hb ah))
     go_loopg [5,6,24] kj2 (fun kq v5 v6 v24 w'=>∃(ae:List Int) (an:Int) (aa:Int),v6=.int .u64 an∧v24=.int .i64 aa∧Aside0 (whole_amount_plus.l0 kq ab af ae an (ab.length:Int) aa=some r)∧Aside0 (kq≤kj2)∧Aside0 (Kd.V (Kd.int .u64) 48 w' w.heap.size (fun k_=>((P0_ k_∨P1_ k_)∨w.heap.size≤k_)∧some k_≠(v5:Value).ownBlock) (.slice Ao8 ab.length co8) ab)∧Aside0 (Kd.V (Kd.int .u64) 48 w' w.heap.size (fun k_=>((P0_ k_∨P1_ k_)∨w.heap.size≤k_)∧some k_≠(v5:Value).ownBlock) u1 af)∧Aside0 (Kd.R (Kd.int .u64) 48 w' w.heap.size (fun k_=>(w.heap.size≤k_)) v5 ae)∧Aside0 (Below w.heap.size w w'))
     case atStart=>exact⟨(aH),(0),(0),J0,J0,H',⟨Nat.le_refl _⟩,⟨kvu ac.out⟩,⟨kvu ad.out⟩,⟨by(with_reducible repeat (first|apply Kd.R_alloc|apply Kd.R_drewN|apply Kd.R_drew));exact Kd.R_mono aT.out (fun _ hk=>hk.1)⟩,⟨khu HB.out⟩⟩
     case round=>
      clear H'
      try clear c1
      try clear p2
      try clear c4
      try clear ag
      try clear ap
      try clear c6
      try clear bg
      try clear bh
      try clear p6
      try clear c7
      try clear bi
      try clear bj
      try clear p2
      obtain⟨ae,an,aa,rfl,rfl,HA,HK2,ac,ad,ao,HB⟩:=hrel
      cases gk with
      | zero=>exact absurd HA.out (by simp[whole_amount_plus.l0])
      | succ k2=>
       have H:=HA.out
       clear HA
       simp only[whole_amount_plus.l0]at H
       by_cases c11:aa<(ab.length:Int)
       ·rw [if_pos c11]at H
        have aU:decide (aa<(ab.length:Int))=true:=decide_eq_true c11
        clear c11
        by_cases c12:aa<(af.length:Int)
        ·rw [if_pos c12]at H
         have aV:decide (aa<(af.length:Int))=true:=decide_eq_true c12
         clear c12
         by_cases c13:0≤aa
         ·rw[if_pos c13]at H
          have bx:decide (0≤aa)=true:=decide_eq_true c13
          clear c13
          by_cases c14:aa<(ab.length:Int)
          ·rw[if_pos c14]at H
           have bz:decide (aa<(ab.length:Int))=true:=decide_eq_true c14
           clear c14
           replace H:=Option.bind_eq_some_iff.mp H
           obtain⟨⟨aq,aw⟩,aI,H⟩:=H
           replace H:(if ae.length<17592186044416 then(whole_amount_plus.l0 k2 ab af (ae++[aq]) aw (ab.length:Int) (wrap64 (aa+1))) else(none))=some r:=H
           have A15:=Aside0.mk aI
           clear aI
           by_cases c16:ae.length<17592186044416
           ·rw[if_pos c16]at H
            have aW:=Aside0.mk c16
            clear c16
            obtain⟨aJ,aj⟩:∃y_:List Int,y_=(ae++[aq]):=⟨_,rfl⟩
            replace H:(whole_amount_plus.l0 k2 ab af aJ aw (ab.length:Int) (wrap64 (aa+1)))=some r:=by first|(rw[aj];with_reducible exact H)|(have H2_:=(Option.bind_some _ _).symm.trans H;rw[aj];with_reducible exact H2_)|(have H2_:=(Option.bind_some _ _).symm.trans H;with_reducible exact H2_)|with_reducible exact H|(rw[aj];exact H)|exact H
            have aX:=Aside0.mk aj
            clear aj
            have H':=Aside0.mk H
            clear H
            obtain⟨bG,bH,bk⟩:=Kd.V_slice ad.out
            subst bk
            have ax:0≤(aa:Int):=of_decide_eq_true ‹_›
            have ay:aa<(af.length:Int):=of_decide_eq_true ‹_›
            obtain⟨bA,bl,br⟩:=Kd.at_int (Kd.V_reads' ad.out).2.2 aa ax ay
            cases bl
            replace ax:=eq_true ax
            replace ay:=eq_true ay
            have az:0≤(aa:Int):=of_decide_eq_true ‹_›
            have aA:aa<(ab.length:Int):=of_decide_eq_true ‹_›
            obtain⟨bB,bn,bu⟩:=Kd.at_int (Kd.V_reads' ac.out).2.2 aa az aA
            cases bn
            replace az:=eq_true az
            replace aA:=eq_true aA
            have bI:=bits_Add64.run A15.out
            go_wp2_with (first|((with_reducible refine gate_builtin (b:=.append) (xs:=#[.tmp 45,.tmp 47]) rfl ?_);at_builtin;refine Kd.R_append (Kd.int .u64) (w0:=w) w.heap.size rfl (.tmp 45) (.tmp 47) 25 48 (.int .u64 0) 8 rfl Tryz.underlying25 info48 rfl X0 Z0 u5 ae aq [.int .u64 aq] (fun k_=>(w.heap.size≤k_)) (fun _=>False) rfl rfl ?aP (fun _ hk=>hk.elim) ?aF ?aO ?aB ?aS ?aL ?_;(case aP=>exact rfl);(case aB=>exact(khu HB.out));(case aF=>exact(fun k_ hk=>(Nat.le_trans (below_size (khu HB.out)) hk)));(case aO=>exact(kru ao.out));(case aS=>exact(below_size (khu HB.out)));(case aL=>have:=aW.out;omega);intro bJ w19 ho hb hg hat;rw[←aX.out]at ho;replace ac:=Aside0.mk (Kd.V_afterv (ok:=(fun k_=>((P0_ k_∨P1_ k_)∨w.heap.size≤k_))) (kvu ac.out) hg hat);replace ad:=Aside0.mk (Kd.V_afterv (ok:=(fun k_=>((P0_ k_∨P1_ k_)∨w.heap.size≤k_))) (kvu ad.out) hg hat);replace HB:=Aside0.mk (hb);have aY:=Aside0.mk (ho);clear ao;clear ho hb hg hat))
            go_roundg k2
            case measure=>have:=HJ2.out;have:=HK2.out;omega
            case rel=>exact⟨(aJ),(aw),(wrap64 (aa+1)),J0,J0,H',⟨X7⟩,⟨kvu ac.out⟩,⟨kvu ad.out⟩,⟨kru aY.out⟩,⟨khu HB.out⟩⟩
           rw[if_neg c16]at H
           exact absurd H Z1
          rw[if_neg c14]at H
          exact absurd H Z1
         rw[if_neg c13]at H
         exact absurd H Z1
        rw[if_neg c12]at H
        have aV:decide (aa<(af.length:Int))=false:=decide_eq_false c12
        clear c12
        by_cases c20:0≤aa
        ·rw[if_pos c20]at H
         have bC:decide (0≤aa)=true:=decide_eq_true c20
         clear c20
         by_cases c21:aa<(ab.length:Int)
         ·rw[if_pos c21]at H
          have bD:decide (aa<(ab.length:Int))=true:=decide_eq_true c21
          clear c21
          replace H:=Option.bind_eq_some_iff.mp H
          obtain⟨⟨ar,aC⟩,aK,H⟩:=H
          replace H:(if ae.length<17592186044416 then(whole_amount_plus.l0 k2 ab af (ae++[ar]) aC (ab.length:Int) (wrap64 (aa+1))) else(none))=some r:=H
          have A22:=Aside0.mk aK
          clear aK
          by_cases c23:ae.length<17592186044416
          ·rw[if_pos c23]at H
           have aZ:=Aside0.mk c23
           clear c23
           obtain⟨aM,ak⟩:∃y_:List Int,y_=(ae++[ar]):=⟨_,rfl⟩
           replace H:(whole_amount_plus.l0 k2 ab af aM aC (ab.length:Int) (wrap64 (aa+1)))=some r:=by first|(rw[ak];with_reducible exact H)|(have H2_:=(Option.bind_some _ _).symm.trans H;rw[ak];with_reducible exact H2_)|(have H2_:=(Option.bind_some _ _).symm.trans H;with_reducible exact H2_)|with_reducible exact H|(rw[ak];exact H)|exact H
           have bb:=Aside0.mk ak
           clear ak
           have H':=Aside0.mk H
           clear H
           obtain⟨bK,bL,bo⟩:=Kd.V_slice ad.out
           subst bo
           have aD:0≤(aa:Int):=of_decide_eq_true ‹_›
           have aE:aa<(ab.length:Int):=of_decide_eq_true ‹_›
           obtain⟨bE,bp,bv⟩:=Kd.at_int (Kd.V_reads' ac.out).2.2 aa aD aE
           cases bp
           replace aD:=eq_true aD
           replace aE:=eq_true aE
           have bM:=bits_Add64.run A22.out
           go_wp2_with (first|((with_reducible refine gate_builtin (b:=.append) (xs:=#[.tmp 45,.tmp 47]) rfl ?_);at_builtin;refine Kd.R_append (Kd.int .u64) (w0:=w) w.heap.size rfl (.tmp 45) (.tmp 47) 25 48 (.int .u64 0) 8 rfl Tryz.underlying25 info48 rfl X0 Z0 u5 ae ar [.int .u64 ar] (fun k_=>(w.heap.size≤k_)) (fun _=>False) rfl rfl ?aP (fun _ hk=>hk.elim) ?aF ?aO ?aB ?aS ?aL ?_;(case aP=>exact rfl);(case aB=>exact(khu HB.out));(case aF=>exact(fun k_ hk=>(Nat.le_trans (below_size (khu HB.out)) hk)));(case aO=>exact(kru ao.out));(case aS=>exact(below_size (khu HB.out)));(case aL=>have:=aZ.out;omega);intro bN w26 ho hb hg hat;rw[←bb.out]at ho;replace ac:=Aside0.mk (Kd.V_afterv (ok:=(fun k_=>((P0_ k_∨P1_ k_)∨w.heap.size≤k_))) (kvu ac.out) hg hat);replace ad:=Aside0.mk (Kd.V_afterv (ok:=(fun k_=>((P0_ k_∨P1_ k_)∨w.heap.size≤k_))) (kvu ad.out) hg hat);replace HB:=Aside0.mk (hb);have bc:=Aside0.mk (ho);clear ao;clear ho hb hg hat))
           go_roundg k2
           case measure=>have:=HJ2.out;have:=HK2.out;omega
           case rel=>exact⟨(aM),(aC),(wrap64 (aa+1)),J0,J0,H',⟨X7⟩,⟨kvu ac.out⟩,⟨kvu ad.out⟩,⟨kru bc.out⟩,⟨khu HB.out⟩⟩
          rw[if_neg c23]at H
          exact absurd H Z1
         rw[if_neg c21]at H
         exact absurd H Z1
        rw[if_neg c20]at H
        exact absurd H Z1
       rw[if_neg c11]at H
       have aU:decide (aa<(ab.length:Int))=false:=decide_eq_false c11
       clear c11
       by_cases c27:ae.length<17592186044416
       ·rw[if_pos c27]at H
        have bd:=Aside0.mk c27
        clear c27
        obtain⟨au,al⟩:∃y_:List Int,y_=(ae++[an]):=⟨_,rfl⟩
        replace H:((whole_trimmed.f k2 au).bind fun av=>(some av))=some r:=by first|(rw[al];with_reducible exact H)|(have H2_:=(Option.bind_some _ _).symm.trans H;rw[al];with_reducible exact H2_)|(have H2_:=(Option.bind_some _ _).symm.trans H;with_reducible exact H2_)|with_reducible exact H|(rw[al];exact H)|exact H
        have be:=Aside0.mk al
        clear al
        replace H:=Option.bind_eq_some_iff.mp H
        obtain⟨av,aN,H⟩:=H
        replace H:(some av)=some r:=H
        have A28:=Aside0.mk aN
        clear aN
        obtain rfl:=Option.some.inj H
        go_wp2_with (first|((with_reducible refine gate_builtin (b:=.append) (xs:=#[.tmp 51,.tmp 53]) rfl ?_);at_builtin;refine Kd.R_append (Kd.int .u64) (w0:=w) w.heap.size rfl (.tmp 51) (.tmp 53) 25 48 (.int .u64 0) 8 rfl Tryz.underlying25 info48 rfl X0 Z0 u5 ae an [.int .u64 an] (fun k_=>(w.heap.size≤k_)) (fun _=>False) rfl rfl ?aP (fun _ hk=>hk.elim) ?aF ?aO ?aB ?aS ?aL ?_;(case aP=>exact rfl);(case aB=>exact(khu HB.out));(case aF=>exact(fun k_ hk=>(Nat.le_trans (below_size (khu HB.out)) hk)));(case aO=>exact(kru ao.out));(case aS=>exact(below_size (khu HB.out)));(case aL=>have:=bd.out;omega);intro bO w29 ho hb hg hat;rw[←be.out]at ho;replace ac:=Aside0.mk (Kd.V_afterv (ok:=(fun k_=>((P0_ k_∨P1_ k_)∨w.heap.size≤k_))) (kvu ac.out) hg hat);replace ad:=Aside0.mk (Kd.V_afterv (ok:=(fun k_=>((P0_ k_∨P1_ k_)∨w.heap.size≤k_))) (kvu ad.out) hg hat);replace HB:=Aside0.mk (hb);have am:=Aside0.mk (ho);clear ao;clear ho hb hg hat;obtain⟨aQ,aR,bq⟩:=Kd.R_slice am.out;subst bq)|((with_reducible refine gate_callee (f:=93) rfl ?_);refine kgl (some 55) rfl rfl Tryz.func93 #[.slice aQ au.length aR] rfl ?_;(with_reducible refine(whole_trimmed.calls k2 (fun k_=>some k_=(.slice aQ au.length aR:Value).ownBlock) _ _ au av _ ?side1 A28.out).mono ?_);(case side1=>exact Kd.R_V (Kd.R_tight rfl (am.out)));rintro e w31 ⟨bP,rfl,ho0,hb⟩;refine⟨_,rfl,?_⟩;replace ac:=kvb ac hb;replace ad:=kvb ad hb;have bf:=Aside0.mk (Kd.V_lower (Kd.V_mono (ok':=fun k_=>((P0_ k_∨P1_ k_)∨w.heap.size≤k_)) ho0 (fun k_ hk_=>Or.elim hk_ (fun hs_=>(.inr (((am.out).1 k_ hs_.symm)))) (fun hn_=>(.inr (Nat.le_trans (below_size (khu HB.out)) hn_))))) (below_size (khu HB.out)));replace am:=krb am hb;replace HB:=kbs HB hb;(try clear hb);(try clear hb2);(try clear hk);(try clear hi);(try clear ho0)))
        go_ret
        exact⟨_,J5,kvu bf.out,khu HB.out⟩
       rw[if_neg c27]at H
       exact absurd H Z1
    rw[if_neg c7]at H
    exact absurd H Z1
   rw[if_neg c6]at H
   exact absurd H Z1
def whole_amount_minus.l0:Nat→List Int→List Int→List Int→Int→Int→Int→Option (List Int)
 | 0,_,_,_,_,_,_=>none
 | k+1,x0,x1,x5,x6,x15,x16=>if x16<x15 then(if x16<(x1.length:Int) then(if 0≤x16 then(if x16<(x0.length:Int) then((bits_Sub64.f (rd x0 x16) (rd x1 x16) x6).bind fun bt363=>(if x5.length<17592186044416 then(whole_amount_minus.l0 k x0 x1 (x5++[bt363.1]) bt363.2 x15 (wrap64 (x16+1))) else(none))) else(none)) else(none)) else(if 0≤x16 then(if x16<(x0.length:Int) then((bits_Sub64.f (rd x0 x16) 0 x6).bind fun bt369=>(if x5.length<17592186044416 then(whole_amount_minus.l0 k x0 x1 (x5++[bt369.1]) bt369.2 x15 (wrap64 (x16+1))) else(none))) else(none)) else(none))) else((whole_trimmed.f k x5).bind fun t374=>(some t374))
def whole_amount_minus.f (k:Nat) (l0:List Int) (l1:List Int):Option (List Int):=if 0≤(l0.length:Int) then(if((l0.length:Int):Int).toNat≤35184372088832 then(whole_amount_minus.l0 k l0 l1 (([]:List Int)) 0 (l0.length:Int) 0) else(none)) else(none)
theorem whole_amount_minus.mono_l:∀k,(∀y0 y1 y2 y3 y4 y5,LeO (whole_amount_minus.l0 k y0 y1 y2 y3 y4 y5) (whole_amount_minus.l0 (k+1) y0 y1 y2 y3 y4 y5))
 | 0=>fun _ _ _ _ _ _ r h=>by simp[whole_amount_minus.l0]at h
 | k+1=>by
  have ih0:=whole_amount_minus.mono_l k
  intro y0 y1 y2 y3 y4 y5
  unfold whole_amount_minus.l0
  repeat' first
  | (with_reducible exact ih0 _ _ _ _ _ _)
  | (with_reducible exact whole_trimmed.mono _ _)
  | (with_reducible exact LeO.refl _)
  | (with_reducible exact LeO.none _)
  | (with_reducible refine LeO.ite ?_ ?_)
  | (with_reducible refine LeO.bind ?_ (fun _=>?_))
  | exact ih0 _ _ _ _ _ _
  | exact whole_trimmed.mono _ _
  | exact LeO.none _
  | refine LeO.ite ?_ ?_
  | refine LeO.bind ?_ (fun _=>?_)
theorem whole_amount_minus.mono:∀a0 a1 k,LeO (whole_amount_minus.f k a0 a1) (whole_amount_minus.f (k+1) a0 a1):=by
 intro a0 a1 k
 have ih0:=whole_amount_minus.mono_l k
 unfold whole_amount_minus.f
 repeat' first
   | (with_reducible exact ih0 _ _ _ _ _ _)
   | (with_reducible exact whole_trimmed.mono _ _)
   | (with_reducible exact LeO.refl _)
   | (with_reducible exact LeO.none _)
   | (with_reducible refine LeO.ite ?_ ?_)
   | (with_reducible refine LeO.bind ?_ (fun _=>?_))
   | exact ih0 _ _ _ _ _ _
   | exact whole_trimmed.mono _ _
   | exact LeO.none _
   | refine LeO.ite ?_ ?_
   | refine LeO.bind ?_ (fun _=>?_)
theorem whole_amount_minus.calls (k:Nat) (A0:Option Addr) (c0:Nat) (l0:List Int) (A1:Option Addr) (c1:Nat) (l1:List Int) (r:List Int) (w:World) (hr0:Kd.C (Kd.int .u64) w A0 l0.length l0) (hc0:l0.length≤c0) (hr1:Kd.C (Kd.int .u64) w A1 l1.length l1) (hc1:l1.length≤c1) (h:whole_amount_minus.f k l0 l1=some r) :
  Calls Tryz.prog 162 #[.slice A0 l0.length c0,.slice A1 l1.length c1] w fun e w'=>∃v0_:Value,e=.returned (v0_)∧Kd.V (Kd.int .u64) 48 w' w.heap.size (fun k_=>(w.heap.size≤k_)) v0_ r∧Below w.heap.size w w':=by
 have HR0:=Aside0.mk hr0
 have HC0:=Aside0.mk hc0
 clear hr0 hc0
 have HR1:=Aside0.mk hr1
 have HC1:=Aside0.mk hc1
 clear hr1 hc1
 have HB:=Aside0.mk (Below.refl w.heap.size w)
 have H:(if 0≤(l0.length:Int) then(if((l0.length:Int):Int).toNat≤35184372088832 then(whole_amount_minus.l0 k l0 l1 (([]:List Int)) 0 (l0.length:Int) 0) else(none)) else(none))=some r:=h
 clear h
 by_cases c3:0≤(l0.length:Int)
 ·rw [if_pos c3]at H
  have aU:=eq_true c3
  have aV:decide (0≤(l0.length:Int))=true:=decide_eq_true c3
  clear c3
  by_cases c4:((l0.length:Int):Int).toNat≤35184372088832
  ·rw [if_pos c4]at H
   have aW:=eq_true c4
   have aX:decide (((l0.length:Int):Int).toNat≤35184372088832)=true:=decide_eq_true c4
   clear c4
   obtain⟨ax,ad⟩:∃y_:List Int,y_=(([]:List Int)):=⟨_,rfl⟩
   replace H:(whole_amount_minus.l0 k l0 l1 ax 0 (l0.length:Int) 0)=some r:=by first|(rw[ad];with_reducible exact H)|(have H2_:=(Option.bind_some _ _).symm.trans H;rw[ad];with_reducible exact H2_)|(have H2_:=(Option.bind_some _ _).symm.trans H;with_reducible exact H2_)|with_reducible exact H|(rw[ad];exact H)|exact H
   have aw:=Aside0.mk ad
   clear ad
   have H':=Aside0.mk H
   clear H
   go_enter Tryz.func162,Tryz.ntmps162
   go_wp2_with (first|(refine gd 13 rfl ?_;refine Kd.R_make0 (Kd.int .u64) _ 48 rfl (N:=13) rfl 25 _ _ rfl (l0.length:Int) rfl rfl Tryz.underlying25 (.int .u64 0) 8 info48 rfl X0 Z0 0 (ok:=fun _=>True) (okp:=fun _=>True) rfl (fun _ hk=>hk) trivial (of_decide_eq_true ‹_›) (Nat.le_trans (Nat.mul_le_mul_right _ (of_decide_eq_true ‹_›:(l0.length:Int).toNat≤35184372088832)) Z0) (Below.refl _ _) (Nat.le_refl _) ?_;intro bl w5 ho6 hb hg_ hnew_;clear hg_ hnew_;(first|rw[←aw.out]at ho6|(simp only[Int.reduceToNat]at ho6;rw[←aw.out]at ho6));have aI:=Aside0.mk (Kd.R_lower (Kd.R_newM (M:=fun k_=>(w.heap.size≤k_)) ho6 (below_size (khu HB.out)) (fun k_ h_=>h_)) (below_size (khu HB.out)));replace HB:=kbs HB hb;clear hb ho6))
   go_loopg [5,6,16] k (fun kq v5 v6 v16 w'=>∃(ab:List Int) (al:Int) (aa:Int),v6=.int .u64 al∧v16=.int .i64 aa∧Aside0 (whole_amount_minus.l0 kq l0 l1 ab al (l0.length:Int) aa=some r)∧Aside0 (kq≤k)∧Aside0 (Kd.R (Kd.int .u64) 48 w' w.heap.size (fun k_=>(w.heap.size≤k_)) v5 ab)∧Aside0 (Below w.heap.size w w'))
   case atStart=>exact⟨(ax),(0),(0),J0,J0,H',⟨Nat.le_refl _⟩,⟨by(with_reducible repeat (first|apply Kd.R_alloc|apply Kd.R_drewN|apply Kd.R_drew));exact Kd.R_mono aI.out (fun _ hk=>hk.1)⟩,⟨khu HB.out⟩⟩
   case round=>
    clear H'
    try clear c1
    try clear p2
    try clear c3
    try clear aU
    try clear aV
    try clear c4
    try clear aW
    try clear aX
    obtain⟨ab,al,aa,rfl,rfl,HA,HK1,ac,HB⟩:=hrel
    cases gk with
    | zero=>exact absurd HA.out (by simp[whole_amount_minus.l0])
    | succ k1=>
     have H:=HA.out
     clear HA
     simp only[whole_amount_minus.l0]at H
     by_cases c7:aa<(l0.length:Int)
     ·rw [if_pos c7]at H
      have aY:decide (aa<(l0.length:Int))=true:=decide_eq_true c7
      clear c7
      by_cases c8:aa<(l1.length:Int)
      ·rw [if_pos c8]at H
       have aZ:decide (aa<(l1.length:Int))=true:=decide_eq_true c8
       clear c8
       by_cases c9:0≤aa
       ·rw[if_pos c9]at H
        have bn:decide (0≤aa)=true:=decide_eq_true c9
        clear c9
        by_cases c10:aa<(l0.length:Int)
        ·rw[if_pos c10]at H
         have bf:decide (aa<(l0.length:Int))=true:=decide_eq_true c10
         clear c10
         replace H:=Option.bind_eq_some_iff.mp H
         obtain⟨⟨aj,am⟩,ay,H⟩:=H
         replace H:(if ab.length<17592186044416 then(whole_amount_minus.l0 k1 l0 l1 (ab++[aj]) am (l0.length:Int) (wrap64 (aa+1))) else(none))=some r:=H
         have A11:=Aside0.mk ay
         clear ay
         by_cases c12:ab.length<17592186044416
         ·rw[if_pos c12]at H
          have aJ:=Aside0.mk c12
          clear c12
          obtain⟨az,ae⟩:∃y_:List Int,y_=(ab++[aj]):=⟨_,rfl⟩
          replace H:(whole_amount_minus.l0 k1 l0 l1 az am (l0.length:Int) (wrap64 (aa+1)))=some r:=by first|(rw[ae];with_reducible exact H)|(have H2_:=(Option.bind_some _ _).symm.trans H;rw[ae];with_reducible exact H2_)|(have H2_:=(Option.bind_some _ _).symm.trans H;with_reducible exact H2_)|with_reducible exact H|(rw[ae];exact H)|exact H
          have aK:=Aside0.mk ae
          clear ae
          have H':=Aside0.mk H
          clear H
          have an:0≤(aa:Int):=of_decide_eq_true ‹_›
          have ao:aa<(l1.length:Int):=of_decide_eq_true ‹_›
          obtain⟨bg,bb,ag⟩:=Kd.at_int HR1.out aa an ao
          cases bb
          replace ag:=(HB.out.cell (World.block_lt_of_cell? w _ ag)).trans ag
          replace an:=eq_true an
          replace ao:=eq_true ao
          have ap:0≤(aa:Int):=of_decide_eq_true ‹_›
          have aq:aa<(l0.length:Int):=of_decide_eq_true ‹_›
          obtain⟨bh,bc,ah⟩:=Kd.at_int HR0.out aa ap aq
          cases bc
          replace ah:=(HB.out.cell (World.block_lt_of_cell? w _ ah)).trans ah
          replace ap:=eq_true ap
          replace aq:=eq_true aq
          have bo:=bits_Sub64.run A11.out
          go_wp2_with (first|((with_reducible refine gate_builtin (b:=.append) (xs:=#[.tmp 37,.tmp 39]) rfl ?_);at_builtin;refine Kd.R_append (Kd.int .u64) (w0:=w) w.heap.size rfl (.tmp 37) (.tmp 39) 25 48 (.int .u64 0) 8 rfl Tryz.underlying25 info48 rfl X0 Z0 u5 ab aj [.int .u64 aj] (fun k_=>(w.heap.size≤k_)) (fun _=>False) rfl rfl ?aP (fun _ hk=>hk.elim) ?aF ?aO ?aB ?aS ?aL ?_;(case aP=>exact rfl);(case aB=>exact(khu HB.out));(case aF=>exact(fun k_ hk=>(Nat.le_trans (below_size (khu HB.out)) hk)));(case aO=>exact(kru ac.out));(case aS=>exact(below_size (khu HB.out)));(case aL=>have:=aJ.out;omega);intro bp w14 ho hb hg hat;rw[←aK.out]at ho;replace HB:=Aside0.mk (hb);have aM:=Aside0.mk (ho);clear ac;clear ho hb hg hat))
          go_roundg k1
          case measure=>have:=HK1.out;omega
          case rel=>exact⟨(az),(am),(wrap64 (aa+1)),J0,J0,H',⟨X2⟩,⟨kru aM.out⟩,⟨khu HB.out⟩⟩
         rw[if_neg c12]at H
         exact absurd H Z1
        rw[if_neg c10]at H
        exact absurd H Z1
       rw[if_neg c9]at H
       exact absurd H Z1
      rw[if_neg c8]at H
      have aZ:decide (aa<(l1.length:Int))=false:=decide_eq_false c8
      clear c8
      by_cases c15:0≤aa
      ·rw[if_pos c15]at H
       have bi:decide (0≤aa)=true:=decide_eq_true c15
       clear c15
       by_cases c16:aa<(l0.length:Int)
       ·rw[if_pos c16]at H
        have bj:decide (aa<(l0.length:Int))=true:=decide_eq_true c16
        clear c16
        replace H:=Option.bind_eq_some_iff.mp H
        obtain⟨⟨ak,ar⟩,aA,H⟩:=H
        replace H:(if ab.length<17592186044416 then(whole_amount_minus.l0 k1 l0 l1 (ab++[ak]) ar (l0.length:Int) (wrap64 (aa+1))) else(none))=some r:=H
        have A17:=Aside0.mk aA
        clear aA
        by_cases c18:ab.length<17592186044416
        ·rw[if_pos c18]at H
         have aN:=Aside0.mk c18
         clear c18
         obtain⟨aC,af⟩:∃y_:List Int,y_=(ab++[ak]):=⟨_,rfl⟩
         replace H:(whole_amount_minus.l0 k1 l0 l1 aC ar (l0.length:Int) (wrap64 (aa+1)))=some r:=by first|(rw[af];with_reducible exact H)|(have H2_:=(Option.bind_some _ _).symm.trans H;rw[af];with_reducible exact H2_)|(have H2_:=(Option.bind_some _ _).symm.trans H;with_reducible exact H2_)|with_reducible exact H|(rw[af];exact H)|exact H
         have aQ:=Aside0.mk af
         clear af
         have H':=Aside0.mk H
         clear H
         have au:0≤(aa:Int):=of_decide_eq_true ‹_›
         have av:aa<(l0.length:Int):=of_decide_eq_true ‹_›
         obtain⟨bk,bd,ai⟩:=Kd.at_int HR0.out aa au av
         cases bd
         replace ai:=(HB.out.cell (World.block_lt_of_cell? w _ ai)).trans ai
         replace au:=eq_true au
         replace av:=eq_true av
         have bq:=bits_Sub64.run A17.out
         go_wp2_with (first|((with_reducible refine gate_builtin (b:=.append) (xs:=#[.tmp 37,.tmp 39]) rfl ?_);at_builtin;refine Kd.R_append (Kd.int .u64) (w0:=w) w.heap.size rfl (.tmp 37) (.tmp 39) 25 48 (.int .u64 0) 8 rfl Tryz.underlying25 info48 rfl X0 Z0 u5 ab ak [.int .u64 ak] (fun k_=>(w.heap.size≤k_)) (fun _=>False) rfl rfl ?aP (fun _ hk=>hk.elim) ?aF ?aO ?aB ?aS ?aL ?_;(case aP=>exact rfl);(case aB=>exact(khu HB.out));(case aF=>exact(fun k_ hk=>(Nat.le_trans (below_size (khu HB.out)) hk)));(case aO=>exact(kru ac.out));(case aS=>exact(below_size (khu HB.out)));(case aL=>have:=aN.out;omega);intro br w20 ho hb hg hat;rw[←aQ.out]at ho;replace HB:=Aside0.mk (hb);have aR:=Aside0.mk (ho);clear ac;clear ho hb hg hat))
         go_roundg k1
         case measure=>have:=HK1.out;omega
         case rel=>exact⟨(aC),(ar),(wrap64 (aa+1)),J0,J0,H',⟨X2⟩,⟨kru aR.out⟩,⟨khu HB.out⟩⟩
        rw[if_neg c18]at H
        exact absurd H Z1
       rw[if_neg c16]at H
       exact absurd H Z1
      rw[if_neg c15]at H
      exact absurd H Z1
     rw[if_neg c7]at H
     have aY:decide (aa<(l0.length:Int))=false:=decide_eq_false c7
     clear c7
     replace H:=Option.bind_eq_some_iff.mp H
     obtain⟨aD,aE,H⟩:=H
     replace H:(some aD)=some r:=H
     have A21:=Aside0.mk aE
     clear aE
     obtain rfl:=Option.some.inj H
     obtain⟨aG,aH,be⟩:=Kd.R_slice ac.out
     subst be
     go_wp2_with (first|((with_reducible refine gate_callee (f:=93) rfl ?_);refine kgl (some 44) rfl rfl Tryz.func93 #[.slice aG ab.length aH] rfl ?_;(with_reducible refine(whole_trimmed.calls k1 (fun k_=>some k_=(.slice aG ab.length aH:Value).ownBlock) _ _ ab aD _ ?side1 A21.out).mono ?_);(case side1=>exact Kd.R_V (Kd.R_tight rfl (ac.out)));rintro e w23 ⟨bu,rfl,ho0,hb⟩;refine⟨_,rfl,?_⟩;have aT:=Aside0.mk (Kd.V_lower (Kd.V_mono (ok':=fun k_=>(w.heap.size≤k_)) ho0 (fun k_ hk_=>Or.elim hk_ (fun hs_=>((ac.out).1 k_ hs_.symm)) (fun hn_=>(Nat.le_trans (below_size (khu HB.out)) hn_)))) (below_size (khu HB.out)));replace ac:=krb ac hb;replace HB:=kbs HB hb;(try clear hb);(try clear hb2);(try clear hk);(try clear hi);(try clear ho0)))
     go_ret
     exact⟨_,D0,kvu aT.out,khu HB.out⟩
  rw[if_neg c4]at H
  exact absurd H Z1
 rw[if_neg c3]at H
 exact absurd H Z1
def whole_number_plus.f (k:Nat) (l0_0:List Int) (a0_1:Bool) (l1_0:List Int) (a1_1:Bool):Option (List Int×Bool):=if(a0_1==a1_1)=true then((whole_amount_plus.f k l0_0 l1_0).bind fun t380=>((whole_signed.f t380 a0_1).bind fun bt383=>(some (bt383.1,bt383.2)))) else((whole_amount_cmp.f k l0_0 l1_0).bind fun t387=>(if t387≥0 then((whole_amount_minus.f k l0_0 l1_0).bind fun t388=>((whole_signed.f t388 a0_1).bind fun bt391=>(some (bt391.1,bt391.2)))) else((whole_amount_minus.f k l1_0 l0_0).bind fun t395=>((whole_signed.f t395 a1_1).bind fun bt398=>(some (bt398.1,bt398.2))))))
theorem whole_number_plus.mono:∀a0 a1 a2 a3 k,LeO (whole_number_plus.f k a0 a1 a2 a3) (whole_number_plus.f (k+1) a0 a1 a2 a3):=by
 intro a0 a1 a2 a3 k
 unfold whole_number_plus.f
 repeat' first
   | (with_reducible exact whole_amount_cmp.mono _ _ _)
   | (with_reducible exact whole_amount_minus.mono _ _ _)
   | (with_reducible exact whole_amount_plus.mono _ _ _)
   | (with_reducible exact LeO.refl _)
   | (with_reducible exact LeO.none _)
   | (with_reducible refine LeO.ite ?_ ?_)
   | (with_reducible refine LeO.bind ?_ (fun _=>?_))
   | exact whole_amount_cmp.mono _ _ _
   | exact whole_amount_minus.mono _ _ _
   | exact whole_amount_plus.mono _ _ _
   | exact LeO.none _
   | refine LeO.ite ?_ ?_
   | refine LeO.bind ?_ (fun _=>?_)
def whole_number_plus.T2:Bool×List (List Nat×List Nat):=(true,[([],[]),([0],[0]),([],[]),([2],[2]),([1,3],[1,3]),([],[]),([5],[5]),([4,6,4],[4,6]),([7,7,0,1,2,3,4,5,6,7],[7])])
def whole_number_plus.B2:List Nat:=[0,1,0,4,15,0,32,127,255]
theorem whole_number_plus.tab2:rtab .any (opsOf Tryz.f143 2)=whole_number_plus.T2:=by kernel_rfl
theorem whole_number_plus.bits2:waitsOk whole_number_plus.T2.2 whole_number_plus.B2=true:=by kernel_rfl
def whole_number_plus.T4:Bool×List (List Nat×List Nat):=(true,[([],[]),([0],[0]),([],[]),([2],[2]),([1,3],[1,3]),([],[]),([5],[5]),([4,6,4],[4,6]),([7,7,0,1,2,3,4,5,6,7],[7])])
def whole_number_plus.B4:List Nat:=[0,1,0,4,15,0,32,127,255]
theorem whole_number_plus.tab4:rtab .any (opsOf Tryz.f143 4)=whole_number_plus.T4:=by kernel_rfl
theorem whole_number_plus.bits4:waitsOk whole_number_plus.T4.2 whole_number_plus.B4=true:=by kernel_rfl
def whole_number_plus.T5:Bool×List (List Nat×List Nat):=(true,[([],[]),([0],[0]),([],[]),([2],[2]),([1,3],[1,3]),([],[]),([5],[5]),([4,6,4],[4,6]),([7,7,0,1,2,3,4,5,6,7],[7])])
def whole_number_plus.B5:List Nat:=[0,1,0,4,15,0,32,127,255]
theorem whole_number_plus.tab5:rtab .any (opsOf Tryz.f143 5)=whole_number_plus.T5:=by kernel_rfl
theorem whole_number_plus.bits5:waitsOk whole_number_plus.T5.2 whole_number_plus.B5=true:=by kernel_rfl
theorem whole_number_plus.calls (k:Nat) (P0_0_:Nat→Prop) (ad:Option Addr) (ae:Nat) (aa:List Int) (ac:Bool) (P1_0_:Nat→Prop) (af:Option Addr) (ag:Nat) (ab:List Int) (ah:Bool) (r1:List Int) (r2:Bool) (w:World) (ak:Kd.V (Kd.int .u64) 48 w w.heap.size (fun k_=>P0_0_ k_) (.slice ad aa.length ae) aa) (al:Kd.V (Kd.int .u64) 48 w w.heap.size (fun k_=>P1_0_ k_) (.slice af ab.length ag) ab) (h:whole_number_plus.f k aa ac ab ah=some (r1,r2)) :
  Calls Tryz.prog 143 #[.agg #[.slice ad aa.length ae,.bool ac],.agg #[.slice af ab.length ag,.bool ah]] w fun e w'=>∃v0_:Value,e=.returned (.agg #[v0_,.bool r2])∧Kd.V (Kd.int .u64) 48 w' w.heap.size (fun k_=>((P0_0_ k_∨P1_0_ k_)∨w.heap.size≤k_)) v0_ r1∧Below w.heap.size w w':=by
 have aq:=Tryz.underlying90
 have K:=Kp.refl w
 replace K:=K.parV (Kd.V_mono (ok':=fun k=>P0_0_ k) ak (fun _ h=>h))
 clear ak
 replace K:=K.parV (Kd.V_mono (ok':=fun k=>P1_0_ k) al (fun _ h=>h))
 clear al
 try simp only[klv]at K
 rw[whole_number_plus.f]at h
 by_cases c_0:(ac==ah)=true
 ·rw[if_pos c_0]at h
  have ao:decide (ac=ah)=true:=by simpa using c_0
  go_enter Tryz.func143,Tryz.ntmps143
  go_wp2_with (first|(refine gd 2 rfl ?_;refine kbk 2 #[.slice ad aa.length ae,.bool ac] 90 K.u ?_;clear K;intro g1 W2 K)|(refine gd 3 rfl ?_;refine kbk 3 #[.slice af ab.length ag,.bool ah] 90 K.u ?_;clear K;intro g3 W4 K)|(refine gd 4 rfl ?_;refine kbk 4 #[.slice none 0 0,.bool false] 90 K.u ?_;clear K;intro g5 W6 K;obtain⟨ua0,ub0⟩:=K.cell2 0 rfl;obtain⟨ua1,ub1⟩:=K.cell2 1 rfl))
  clear ua0 ub0 ua1 ub1
  replace h:=bindA h
  obtain⟨x7,A8,h⟩:=h
  replace h:=bindA h
  obtain⟨⟨x9,z10⟩,A11,h⟩:=h
  dsimp only at h
  obtain⟨Bs,Vs,Os,hBs,hVs,hOs,K⟩:=K.abs
  have HS:Aside0 (∀l m o W,Kp w (Bs++l) m o W→W.cell? ⟨g1,0,none⟩=some (.slice ad aa.length ae)∧W.cell? ⟨g1,1,none⟩=some (.bool ac)∧W.cell? ⟨g3,0,none⟩=some (.slice af ab.length ag)∧W.cell? ⟨g3,1,none⟩=some (.bool ah)):=⟨fun l m o W K=>by rw[hBs.out]at K;exact⟨K.cell 0 rfl 0 rfl,K.cell 0 rfl 1 rfl,K.cell 1 rfl 0 rfl,K.cell 1 rfl 1 rfl⟩⟩
  refine kpstart (n:=9) (ds:=[]) (S:=fun W=>W.cell? ⟨g1,0,none⟩=some (.slice ad aa.length ae)∧W.cell? ⟨g1,1,none⟩=some (.bool ac)∧W.cell? ⟨g3,0,none⟩=some (.slice af ab.length ag)∧W.cell? ⟨g3,1,none⟩=some (.bool ah)) (bm_ 9 0) Y0 rfl rfl K (HS.out [] _ _) (fun W14 K hH=>?_)
  refine with_tabW whole_number_plus.tab2 whole_number_plus.bits2 (fun HT_ HW_=>?_)
  refine pu_ 0 10 ?_ (bm_ 9 1) rfl rfl (any_of HT_.out Y0) (fun _ _ _ h=>h) F0 ?_ ?_ ?_ ?_
  rotate_left
  ·intro w'
   go_simp
   with_reducible rfl
  rotate_left
  ·simp only[Act.put,kss,i64_w,i32_w]
   rfl
  refine tk_ 1 11 ?_ (bm_ 9 3) rfl rfl (take_ofW HT_.out HW_.out Y0) (fun _ _ _ h=>h) F0 ?_ hH ?_ ?_ ?_
  rotate_left
  ·rintro w' ⟨s0,s1,s2,s3⟩
   go_simp
   with_reducible rfl
  rotate_left
  ·simp only[Act.put,kss,i64_w,i32_w]
   rfl
  refine pu_ 2 12 ?_ (bm_ 9 7) rfl rfl (any_of HT_.out Y0) (fun _ _ _ h=>h) F0 ?_ ?_ ?_ ?_
  rotate_left
  ·intro w'
   go_simp
   with_reducible rfl
  rotate_left
  ·simp only[Act.put,kss,i64_w,i32_w]
   rfl
  refine tk_ 3 13 ?_ (bm_ 9 15) rfl rfl (take_ofW HT_.out HW_.out Y0) (fun _ _ _ h=>h) F0 ?_ hH ?_ ?_ ?_
  rotate_left
  ·rintro w' ⟨s0,s1,s2,s3⟩
   go_simp
   with_reducible rfl
  rotate_left
  ·simp only[Act.put,kss,i64_w,i32_w]
   rfl
  refine pu_ 5 15 ?_ (bm_ 9 47) rfl rfl (any_of HT_.out Y0) (fun _ _ _ h=>h) F0 ?_ ?_ ?_ ?_
  rotate_left
  ·intro w'
   go_simp
   with_reducible rfl
  rotate_left
  ·simp only[Act.put,kss,i64_w,i32_w]
   rfl
  refine tk_ 6 16 ?_ (bm_ 9 111) rfl rfl (take_ofW HT_.out HW_.out Y0) (fun _ _ _ h=>h) F0 ?_ hH ?_ ?_ ?_
  rotate_left
  ·rintro w' ⟨s0,s1,s2,s3⟩
   go_simp
   with_reducible rfl
  rotate_left
  ·simp only[Act.put,kss,i64_w,i32_w]
   rfl
  refine one_ (i:=4) (N:=some 14) (bm_ 9 127) rfl rfl (one_of HT_.out Y0) X0 (fun Kc hK=>?_)
  refine kgo Tryz.func161 #[.slice ad aa.length ae,.slice af ab.length ag] F0 rfl rfl ?_
  refine(whole_amount_plus.calls _ _ _ _ aa _ _ _ ab x7 _ (K.V 0 (hv hVs rfl)) (K.V 1 (hv hVs rfl)) A8.out).mono ?_
  rintro e W' ⟨v12,rfl,am,hb⟩
  replace K:=K.addI 0 (fun k=>(fun k=>P0_0_ k) k∨(fun k=>P1_0_ k) k) hb am (fun _ h=>h.elim (fun h=>(h).l) fun h=>(h).r)
  clear hb am
  refine⟨_,rfl,hK.out _ _ (HS.out _ _ _ _ K) fun hH=>?_⟩
  clear hK Kc
  refine norm_ (a':=?_) ?_ ?_
  rotate_left
  ·show Act.put _ (some 14) _=_
   simp only[Act.put,kss,i64_w,i32_w]
   rfl
  refine one_ (i:=7) (N:=some 17) (bm_ 9 255) rfl rfl (one_of HT_.out Y0) X0 (fun Kc hK=>?_)
  obtain⟨P16,c17,e18⟩:=K.slice 2 (hv hVs rfl)
  subst e18
  refine kgo Tryz.func144 #[.slice P16 x7.length c17,.bool ac] F0 rfl rfl ?_
  refine(whole_signed.calls _ _ _ x7 ac x9 z10 _ (K.V 2 (hv hVs rfl)) A11.out).mono ?_
  rintro e W' ⟨v13,rfl,an,hb⟩
  replace K:=K.addI 1 (fun k=>(fun k=>P0_0_ k) k∨(fun k=>P1_0_ k) k) hb an (fun _ h=>h)
  clear hb an
  refine⟨_,rfl,hK.out _ _ (HS.out _ _ _ _ K) fun hH=>?_⟩
  clear hK Kc
  refine norm_ (a':=?_) ?_ ?_
  rotate_left
  ·show Act.put _ (some 17) _=_
   simp only[Act.put,kss,i64_w,i32_w]
   rfl
  obtain⟨P20,c21,e22⟩:=K.slice 3 (hv hVs rfl)
  subst e22
  rw[hBs.out,hVs.out,hOs.out]at K
  simp only[kls,klv]at K
  clear hBs hVs hOs HS hH
  refine ko2 (i:=8) (bm_ 9 511) 2 (.slice P20 x9.length c21) (.bool z10) K rfl rfl rfl (one_of HT_.out Y0) X0 F0 (fun W K=>⟨K.cell 0 rfl 0 rfl,K.cell 0 rfl 1 rfl,K.cell 1 rfl 0 rfl,K.cell 1 rfl 1 rfl⟩) ?_
  clear K
  intro W23 K
  simp only[kls,klv]at K
  refine done_ (done_of HT_.out Y0) ?_
  clear HT_ HW_
  simp only[Option.some.injEq,Prod.mk.injEq]at h
  obtain⟨rfl,rfl⟩:=h
  go_wp2
  refine bodyPost_ret (results_single rfl (.cell g5 90 #[.slice P20 x9.length c21,.bool z10] (0,0) _ rfl (K.u.heap 2 rfl) Tryz.underlying90 rfl Y0 .nil)) rfl ?_
  exact⟨_,rfl,K.u.hand 3 rfl (fun k_ h=>by first|exact h|exact .inr (h.resolve_left id)|(simp only[or_false,false_or,or_self]at h ⊢;first|exact h|(rcases h with h|h<;>simp_all)|simp_all)),K.u.below⟩
 rw[if_neg c_0]at h
 replace c_0:=Bool.eq_false_iff.mpr c_0
 have ao:decide (ac=ah)=false:=by simpa using c_0
 replace h:=bindA h
 obtain⟨n7,A8,h⟩:=h
 by_cases c_1:n7≥0
 ·rw[if_pos c_1]at h
  have ap:decide (n7≥0)=true:=decide_eq_true c_1
  go_enter Tryz.func143,Tryz.ntmps143
  go_wp2_with (first|(refine gd 2 rfl ?_;refine kbk 2 #[.slice ad aa.length ae,.bool ac] 90 K.u ?_;clear K;intro g1 W2 K)|(refine gd 3 rfl ?_;refine kbk 3 #[.slice af ab.length ag,.bool ah] 90 K.u ?_;clear K;intro g3 W4 K)|(refine gd 4 rfl ?_;refine kbk 4 #[.slice none 0 0,.bool false] 90 K.u ?_;clear K;intro g5 W6 K;obtain⟨ua0,ub0⟩:=K.cell2 0 rfl;obtain⟨ua1,ub1⟩:=K.cell2 1 rfl)|(refine gd 22 rfl ?_;clear ua0 ub0 ua1 ub1;refine kgl (some 22) rfl rfl Tryz.func95 #[.slice ad aa.length ae,.slice af ab.length ag] rfl ?_;refine(whole_amount_cmp.calls _ _ _ aa _ _ ab n7 _ (K.C 0 rfl) (K.le 0 rfl) (K.C 1 rfl) (K.le 1 rfl) A8.out).mono ?_;rintro e W9 ⟨rfl,hb⟩;refine⟨_,rfl,?_⟩;replace K:=K.u.up hb.below;clear hb))
  replace h:=bindA h
  obtain⟨x10,A11,h⟩:=h
  replace h:=bindA h
  obtain⟨⟨x12,z13⟩,A14,h⟩:=h
  dsimp only at h
  obtain⟨Bs,Vs,Os,hBs,hVs,hOs,K⟩:=K.abs
  have HS:Aside0 (∀l m o W,Kp w (Bs++l) m o W→W.cell? ⟨g1,0,none⟩=some (.slice ad aa.length ae)∧W.cell? ⟨g1,1,none⟩=some (.bool ac)∧W.cell? ⟨g3,0,none⟩=some (.slice af ab.length ag)∧W.cell? ⟨g3,1,none⟩=some (.bool ah)):=⟨fun l m o W K=>by rw[hBs.out]at K;exact⟨K.cell 0 rfl 0 rfl,K.cell 0 rfl 1 rfl,K.cell 1 rfl 0 rfl,K.cell 1 rfl 1 rfl⟩⟩
  refine kpstart (n:=9) (ds:=[]) (S:=fun W=>W.cell? ⟨g1,0,none⟩=some (.slice ad aa.length ae)∧W.cell? ⟨g1,1,none⟩=some (.bool ac)∧W.cell? ⟨g3,0,none⟩=some (.slice af ab.length ag)∧W.cell? ⟨g3,1,none⟩=some (.bool ah)) (bm_ 9 0) Y0 rfl rfl K (HS.out [] _ _) (fun W17 K hH=>?_)
  refine with_tabW whole_number_plus.tab4 whole_number_plus.bits4 (fun HT_ HW_=>?_)
  refine pu_ 0 24 ?_ (bm_ 9 1) rfl rfl (any_of HT_.out Y0) (fun _ _ _ h=>h) F0 ?_ ?_ ?_ ?_
  rotate_left
  ·intro w'
   go_simp
   with_reducible rfl
  rotate_left
  ·simp only[Act.put,kss,i64_w,i32_w]
   rfl
  refine tk_ 1 25 ?_ (bm_ 9 3) rfl rfl (take_ofW HT_.out HW_.out Y0) (fun _ _ _ h=>h) F0 ?_ hH ?_ ?_ ?_
  rotate_left
  ·rintro w' ⟨s0,s1,s2,s3⟩
   go_simp
   with_reducible rfl
  rotate_left
  ·simp only[Act.put,kss,i64_w,i32_w]
   rfl
  refine pu_ 2 26 ?_ (bm_ 9 7) rfl rfl (any_of HT_.out Y0) (fun _ _ _ h=>h) F0 ?_ ?_ ?_ ?_
  rotate_left
  ·intro w'
   go_simp
   with_reducible rfl
  rotate_left
  ·simp only[Act.put,kss,i64_w,i32_w]
   rfl
  refine tk_ 3 27 ?_ (bm_ 9 15) rfl rfl (take_ofW HT_.out HW_.out Y0) (fun _ _ _ h=>h) F0 ?_ hH ?_ ?_ ?_
  rotate_left
  ·rintro w' ⟨s0,s1,s2,s3⟩
   go_simp
   with_reducible rfl
  rotate_left
  ·simp only[Act.put,kss,i64_w,i32_w]
   rfl
  refine pu_ 5 29 ?_ (bm_ 9 47) rfl rfl (any_of HT_.out Y0) (fun _ _ _ h=>h) F0 ?_ ?_ ?_ ?_
  rotate_left
  ·intro w'
   go_simp
   with_reducible rfl
  rotate_left
  ·simp only[Act.put,kss,i64_w,i32_w]
   rfl
  refine tk_ 6 30 ?_ (bm_ 9 111) rfl rfl (take_ofW HT_.out HW_.out Y0) (fun _ _ _ h=>h) F0 ?_ hH ?_ ?_ ?_
  rotate_left
  ·rintro w' ⟨s0,s1,s2,s3⟩
   go_simp
   with_reducible rfl
  rotate_left
  ·simp only[Act.put,kss,i64_w,i32_w]
   rfl
  refine one_ (i:=4) (N:=some 28) (bm_ 9 127) rfl rfl (one_of HT_.out Y0) X0 (fun Kc hK=>?_)
  refine kgo Tryz.func162 #[.slice ad aa.length ae,.slice af ab.length ag] F0 rfl rfl ?_
  refine(whole_amount_minus.calls _ _ _ aa _ _ ab x10 _ (K.C 0 (hv hVs rfl)) (K.le 0 (hv hVs rfl)) (K.C 1 (hv hVs rfl)) (K.le 1 (hv hVs rfl)) A11.out).mono ?_
  rintro e W' ⟨v15,rfl,ai,hb⟩
  replace K:=K.addFI 0 (fun _=>False) hb ai
  clear hb ai
  refine⟨_,rfl,hK.out _ _ (HS.out _ _ _ _ K) fun hH=>?_⟩
  clear hK Kc
  refine norm_ (a':=?_) ?_ ?_
  rotate_left
  ·show Act.put _ (some 28) _=_
   simp only[Act.put,kss,i64_w,i32_w]
   rfl
  refine one_ (i:=7) (N:=some 31) (bm_ 9 255) rfl rfl (one_of HT_.out Y0) X0 (fun Kc hK=>?_)
  obtain⟨P19,c20,e21⟩:=K.slice 2 (hv hVs rfl)
  subst e21
  refine kgo Tryz.func144 #[.slice P19 x10.length c20,.bool ac] F0 rfl rfl ?_
  refine(whole_signed.calls _ _ _ x10 ac x12 z13 _ (K.V 2 (hv hVs rfl)) A14.out).mono ?_
  rintro e W' ⟨v16,rfl,aj,hb⟩
  replace K:=K.addI 1 (fun _=>False) hb aj (fun _ h=>h)
  clear hb aj
  refine⟨_,rfl,hK.out _ _ (HS.out _ _ _ _ K) fun hH=>?_⟩
  clear hK Kc
  refine norm_ (a':=?_) ?_ ?_
  rotate_left
  ·show Act.put _ (some 31) _=_
   simp only[Act.put,kss,i64_w,i32_w]
   rfl
  obtain⟨P23,c24,e25⟩:=K.slice 3 (hv hVs rfl)
  subst e25
  rw[hBs.out,hVs.out,hOs.out]at K
  simp only[kls,klv]at K
  clear hBs hVs hOs HS hH
  refine ko2 (i:=8) (bm_ 9 511) 2 (.slice P23 x12.length c24) (.bool z13) K rfl rfl rfl (one_of HT_.out Y0) X0 F0 (fun W K=>⟨K.cell 0 rfl 0 rfl,K.cell 0 rfl 1 rfl,K.cell 1 rfl 0 rfl,K.cell 1 rfl 1 rfl⟩) ?_
  clear K
  intro W26 K
  simp only[kls,klv]at K
  refine done_ (done_of HT_.out Y0) ?_
  clear HT_ HW_
  simp only[Option.some.injEq,Prod.mk.injEq]at h
  obtain⟨rfl,rfl⟩:=h
  go_wp2
  refine bodyPost_ret (results_single rfl (.cell g5 90 #[.slice P23 x12.length c24,.bool z13] (0,0) _ rfl (K.u.heap 2 rfl) Tryz.underlying90 rfl Y0 .nil)) rfl ?_
  exact⟨_,rfl,K.u.hand 3 rfl (fun k_ h=>h.elim (fun h=>h.elim) .inr),K.u.below⟩
 rw[if_neg c_1]at h
 have ap:decide (n7≥0)=false:=decide_eq_false c_1
 go_enter Tryz.func143,Tryz.ntmps143
 go_wp2_with (first|(refine gd 2 rfl ?_;refine kbk 2 #[.slice ad aa.length ae,.bool ac] 90 K.u ?_;clear K;intro g1 W2 K)|(refine gd 3 rfl ?_;refine kbk 3 #[.slice af ab.length ag,.bool ah] 90 K.u ?_;clear K;intro g3 W4 K)|(refine gd 4 rfl ?_;refine kbk 4 #[.slice none 0 0,.bool false] 90 K.u ?_;clear K;intro g5 W6 K;obtain⟨ua0,ub0⟩:=K.cell2 0 rfl;obtain⟨ua1,ub1⟩:=K.cell2 1 rfl)|(refine gd 22 rfl ?_;clear ua0 ub0 ua1 ub1;refine kgl (some 22) rfl rfl Tryz.func95 #[.slice ad aa.length ae,.slice af ab.length ag] rfl ?_;refine(whole_amount_cmp.calls _ _ _ aa _ _ ab n7 _ (K.C 0 rfl) (K.le 0 rfl) (K.C 1 rfl) (K.le 1 rfl) A8.out).mono ?_;rintro e W9 ⟨rfl,hb⟩;refine⟨_,rfl,?_⟩;replace K:=K.u.up hb.below;clear hb))
 replace h:=bindA h
 obtain⟨x10,A11,h⟩:=h
 replace h:=bindA h
 obtain⟨⟨x12,z13⟩,A14,h⟩:=h
 dsimp only at h
 obtain⟨Bs,Vs,Os,hBs,hVs,hOs,K⟩:=K.abs
 have HS:Aside0 (∀l m o W,Kp w (Bs++l) m o W→W.cell? ⟨g3,0,none⟩=some (.slice af ab.length ag)∧W.cell? ⟨g3,1,none⟩=some (.bool ah)∧W.cell? ⟨g1,0,none⟩=some (.slice ad aa.length ae)∧W.cell? ⟨g1,1,none⟩=some (.bool ac)):=⟨fun l m o W K=>by rw[hBs.out]at K;exact⟨K.cell 1 rfl 0 rfl,K.cell 1 rfl 1 rfl,K.cell 0 rfl 0 rfl,K.cell 0 rfl 1 rfl⟩⟩
 refine kpstart (n:=9) (ds:=[]) (S:=fun W=>W.cell? ⟨g3,0,none⟩=some (.slice af ab.length ag)∧W.cell? ⟨g3,1,none⟩=some (.bool ah)∧W.cell? ⟨g1,0,none⟩=some (.slice ad aa.length ae)∧W.cell? ⟨g1,1,none⟩=some (.bool ac)) (bm_ 9 0) Y0 rfl rfl K (HS.out [] _ _) (fun W17 K hH=>?_)
 refine with_tabW whole_number_plus.tab5 whole_number_plus.bits5 (fun HT_ HW_=>?_)
 refine pu_ 0 32 ?_ (bm_ 9 1) rfl rfl (any_of HT_.out Y0) (fun _ _ _ h=>h) F0 ?_ ?_ ?_ ?_
 rotate_left
 ·intro w'
  go_simp
  with_reducible rfl
 rotate_left
 ·simp only[Act.put,kss,i64_w,i32_w]
  rfl
 refine tk_ 1 33 ?_ (bm_ 9 3) rfl rfl (take_ofW HT_.out HW_.out Y0) (fun _ _ _ h=>h) F0 ?_ hH ?_ ?_ ?_
 rotate_left
 ·rintro w' ⟨s0,s1,s2,s3⟩
  go_simp
  with_reducible rfl
 rotate_left
 ·simp only[Act.put,kss,i64_w,i32_w]
  rfl
 refine pu_ 2 34 ?_ (bm_ 9 7) rfl rfl (any_of HT_.out Y0) (fun _ _ _ h=>h) F0 ?_ ?_ ?_ ?_
 rotate_left
 ·intro w'
  go_simp
  with_reducible rfl
 rotate_left
 ·simp only[Act.put,kss,i64_w,i32_w]
  rfl
 refine tk_ 3 35 ?_ (bm_ 9 15) rfl rfl (take_ofW HT_.out HW_.out Y0) (fun _ _ _ h=>h) F0 ?_ hH ?_ ?_ ?_
 rotate_left
 ·rintro w' ⟨s0,s1,s2,s3⟩
  go_simp
  with_reducible rfl
 rotate_left
 ·simp only[Act.put,kss,i64_w,i32_w]
  rfl
 refine pu_ 5 37 ?_ (bm_ 9 47) rfl rfl (any_of HT_.out Y0) (fun _ _ _ h=>h) F0 ?_ ?_ ?_ ?_
 rotate_left
 ·intro w'
  go_simp
  with_reducible rfl
 rotate_left
 ·simp only[Act.put,kss,i64_w,i32_w]
  rfl
 refine tk_ 6 38 ?_ (bm_ 9 111) rfl rfl (take_ofW HT_.out HW_.out Y0) (fun _ _ _ h=>h) F0 ?_ hH ?_ ?_ ?_
 rotate_left
 ·rintro w' ⟨s0,s1,s2,s3⟩
  go_simp
  with_reducible rfl
 rotate_left
 ·simp only[Act.put,kss,i64_w,i32_w]
  rfl
 refine one_ (i:=4) (N:=some 36) (bm_ 9 127) rfl rfl (one_of HT_.out Y0) X0 (fun Kc hK=>?_)
 refine kgo Tryz.func162 #[.slice af ab.length ag,.slice ad aa.length ae] F0 rfl rfl ?_
 refine(whole_amount_minus.calls _ _ _ ab _ _ aa x10 _ (K.C 1 (hv hVs rfl)) (K.le 1 (hv hVs rfl)) (K.C 0 (hv hVs rfl)) (K.le 0 (hv hVs rfl)) A11.out).mono ?_
 rintro e W' ⟨v15,rfl,ai,hb⟩
 replace K:=K.addFI 0 (fun _=>False) hb ai
 clear hb ai
 refine⟨_,rfl,hK.out _ _ (HS.out _ _ _ _ K) fun hH=>?_⟩
 clear hK Kc
 refine norm_ (a':=?_) ?_ ?_
 rotate_left
 ·show Act.put _ (some 36) _=_
  simp only[Act.put,kss,i64_w,i32_w]
  rfl
 refine one_ (i:=7) (N:=some 39) (bm_ 9 255) rfl rfl (one_of HT_.out Y0) X0 (fun Kc hK=>?_)
 obtain⟨P19,c20,e21⟩:=K.slice 2 (hv hVs rfl)
 subst e21
 refine kgo Tryz.func144 #[.slice P19 x10.length c20,.bool ah] F0 rfl rfl ?_
 refine(whole_signed.calls _ _ _ x10 ah x12 z13 _ (K.V 2 (hv hVs rfl)) A14.out).mono ?_
 rintro e W' ⟨v16,rfl,aj,hb⟩
 replace K:=K.addI 1 (fun _=>False) hb aj (fun _ h=>h)
 clear hb aj
 refine⟨_,rfl,hK.out _ _ (HS.out _ _ _ _ K) fun hH=>?_⟩
 clear hK Kc
 refine norm_ (a':=?_) ?_ ?_
 rotate_left
 ·show Act.put _ (some 39) _=_
  simp only[Act.put,kss,i64_w,i32_w]
  rfl
 obtain⟨P23,c24,e25⟩:=K.slice 3 (hv hVs rfl)
 subst e25
 rw[hBs.out,hVs.out,hOs.out]at K
 simp only[kls,klv]at K
 clear hBs hVs hOs HS hH
 refine ko2 (i:=8) (bm_ 9 511) 2 (.slice P23 x12.length c24) (.bool z13) K rfl rfl rfl (one_of HT_.out Y0) X0 F0 (fun W K=>⟨K.cell 1 rfl 0 rfl,K.cell 1 rfl 1 rfl,K.cell 0 rfl 0 rfl,K.cell 0 rfl 1 rfl⟩) ?_
 clear K
 intro W26 K
 simp only[kls,klv]at K
 refine done_ (done_of HT_.out Y0) ?_
 clear HT_ HW_
 simp only[Option.some.injEq,Prod.mk.injEq]at h
 obtain⟨rfl,rfl⟩:=h
 go_wp2
 refine bodyPost_ret (results_single rfl (.cell g5 90 #[.slice P23 x12.length c24,.bool z13] (0,0) _ rfl (K.u.heap 2 rfl) Tryz.underlying90 rfl Y0 .nil)) rfl ?_
 exact⟨_,rfl,K.u.hand 3 rfl (fun k_ h=>h.elim (fun h=>h.elim) .inr),K.u.below⟩
def whole_number_opposite.f (l0_0:List Int) (a0_1:Bool):Option (List Int×Bool):=(whole_signed.f l0_0 (!a0_1)).bind fun bt404=>(some (bt404.1,bt404.2))
theorem whole_number_opposite.calls (P0_0_:Nat→Prop) (ac:Option Addr) (ad:Nat) (aa:List Int) (ab:Bool) (r1:List Int) (r2:Bool) (w:World) (ae:Kd.V (Kd.int .u64) 48 w w.heap.size (fun k_=>P0_0_ k_) (.slice ac aa.length ad) aa) (h:whole_number_opposite.f aa ab=some (r1,r2)) :
  Calls Tryz.prog 158 #[.agg #[.slice ac aa.length ad,.bool ab]] w fun e w'=>∃v0_:Value,e=.returned (.agg #[v0_,.bool r2])∧Kd.V (Kd.int .u64) 48 w' w.heap.size (fun k_=>(P0_0_ k_∨w.heap.size≤k_)) v0_ r1∧Below w.heap.size w w':=by
 have af:=Tryz.underlying90
 have K:=Kp.refl w
 replace K:=K.parV (Kd.V_mono (ok':=fun k=>P0_0_ k) ae (fun _ h=>h))
 clear ae
 try simp only[klv]at K
 rw[whole_number_opposite.f]at h
 replace h:=bindA h
 obtain⟨⟨x5,z6⟩,A7,h⟩:=h
 dsimp only at h
 simp only[Option.some.injEq,Prod.mk.injEq]at h
 obtain⟨rfl,rfl⟩:=h
 go_enter Tryz.func158,Tryz.ntmps158
 go_wp2_with (first|(refine gd 1 rfl ?_;refine kbk 1 #[.slice ac aa.length ad,.bool ab] 90 K.u ?_;clear K;intro g1 W2 K)|(refine gd 2 rfl ?_;refine kbk 2 #[.slice none 0 0,.bool false] 90 K.u ?_;clear K;intro g3 W4 K;obtain⟨ua0,ub0⟩:=K.cell2 0 rfl)|(refine gd 8 rfl ?_;clear ua0 ub0;refine kgl (some 8) rfl rfl Tryz.func144 #[.slice ac aa.length ad,.bool !ab] rfl ?_;refine(whole_signed.calls _ _ _ aa (!ab) x5 z6 _ (K.V 0 rfl) A7.out).mono ?_;rintro e W10 ⟨v8,rfl,ho9,hb⟩;refine⟨_,rfl,?_⟩;replace K:=K.u.add (fun k=>P0_0_ k) hb ho9 (fun _ h=>h);clear hb ho9;obtain⟨P11,c12,e13⟩:=K.slice 1 rfl;subst e13)|(refine gs 90 2 8 rfl ?_;refine ks2 1 (.slice P11 x5.length c12) (.bool z6) K.u rfl ?_;clear K;intro W14 K;simp only[kls,klv]at K))
 refine bodyPost_ret (results_single rfl (.cell g3 90 #[.slice P11 x5.length c12,.bool z6] (0,0) _ rfl (K.u.heap 1 rfl) Tryz.underlying90 rfl Y0 .nil)) rfl ?_
 exact⟨_,rfl,K.u.hand 1 rfl (fun k_ h=>h.elim (fun h=>.inl h) .inr),K.u.below⟩
def whole_number_minus.f (k:Nat) (l0_0:List Int) (a0_1:Bool) (l1_0:List Int) (a1_1:Bool):Option (List Int×Bool):=(whole_number_opposite.f l1_0 a1_1).bind fun bt411=>((whole_number_plus.f k l0_0 a0_1 bt411.1 bt411.2).bind fun bt415=>(some (bt415.1,bt415.2)))
theorem whole_number_minus.mono:∀a0 a1 a2 a3 k,LeO (whole_number_minus.f k a0 a1 a2 a3) (whole_number_minus.f (k+1) a0 a1 a2 a3):=by
 intro a0 a1 a2 a3 k
 unfold whole_number_minus.f
 repeat' first
   | (with_reducible exact whole_number_plus.mono _ _ _ _ _)
   | (with_reducible exact LeO.refl _)
   | (with_reducible exact LeO.none _)
   | (with_reducible refine LeO.ite ?_ ?_)
   | (with_reducible refine LeO.bind ?_ (fun _=>?_))
   | exact whole_number_plus.mono _ _ _ _ _
   | exact LeO.none _
   | refine LeO.ite ?_ ?_
   | refine LeO.bind ?_ (fun _=>?_)
theorem whole_number_minus.calls (k:Nat) (P0_0_:Nat→Prop) (ae:Option Addr) (af:Nat) (aa:List Int) (ac:Bool) (P1_0_:Nat→Prop) (ag:Option Addr) (ah:Nat) (ab:List Int) (ad:Bool) (r1:List Int) (r2:Bool) (w:World) (ai:Kd.V (Kd.int .u64) 48 w w.heap.size (fun k_=>P0_0_ k_) (.slice ae aa.length af) aa) (aj:Kd.V (Kd.int .u64) 48 w w.heap.size (fun k_=>P1_0_ k_) (.slice ag ab.length ah) ab) (h:whole_number_minus.f k aa ac ab ad=some (r1,r2)) :
  Calls Tryz.prog 146 #[.agg #[.slice ae aa.length af,.bool ac],.agg #[.slice ag ab.length ah,.bool ad]] w fun e w'=>∃v0_:Value,e=.returned (.agg #[v0_,.bool r2])∧Kd.V (Kd.int .u64) 48 w' w.heap.size (fun k_=>((P0_0_ k_∨P1_0_ k_)∨w.heap.size≤k_)) v0_ r1∧Below w.heap.size w w':=by
 have am:=Tryz.underlying90
 have K:=Kp.refl w
 replace K:=K.parV (Kd.V_mono (ok':=fun k=>P0_0_ k) ai (fun _ h=>h))
 clear ai
 replace K:=K.parV (Kd.V_mono (ok':=fun k=>P1_0_ k) aj (fun _ h=>h))
 clear aj
 try simp only[klv]at K
 rw[whole_number_minus.f]at h
 go_enter Tryz.func146,Tryz.ntmps146
 go_wp2_with (first|(refine gd 2 rfl ?_;refine kbk 2 #[.slice ae aa.length af,.bool ac] 90 K.u ?_;clear K;intro g1 W2 K)|(refine gd 3 rfl ?_;refine kbk 3 #[.slice ag ab.length ah,.bool ad] 90 K.u ?_;clear K;intro g3 W4 K)|(refine gd 4 rfl ?_;refine kbk 4 #[.slice none 0 0,.bool false] 90 K.u ?_;clear K;intro g5 W6 K))
 replace h:=bindA h
 obtain⟨⟨x7,z8⟩,A9,h⟩:=h
 dsimp only at h
 replace h:=bindA h
 obtain⟨⟨x10,z11⟩,A12,h⟩:=h
 dsimp only at h
 obtain⟨Bs,Vs,Os,hBs,hVs,hOs,K⟩:=K.abs
 have HS:Aside0 (∀l m o W,Kp w (Bs++l) m o W→W.cell? ⟨g1,0,none⟩=some (.slice ae aa.length af)∧W.cell? ⟨g1,1,none⟩=some (.bool ac)∧W.cell? ⟨g3,0,none⟩=some (.slice ag ab.length ah)∧W.cell? ⟨g3,1,none⟩=some (.bool ad)):=⟨fun l m o W K=>by rw[hBs.out]at K;exact⟨K.cell 0 rfl 0 rfl,K.cell 0 rfl 1 rfl,K.cell 1 rfl 0 rfl,K.cell 1 rfl 1 rfl⟩⟩
 refine kpstart (n:=5) (ds:=[]) (S:=fun W=>W.cell? ⟨g1,0,none⟩=some (.slice ae aa.length af)∧W.cell? ⟨g1,1,none⟩=some (.bool ac)∧W.cell? ⟨g3,0,none⟩=some (.slice ag ab.length ah)∧W.cell? ⟨g3,1,none⟩=some (.bool ad)) (bm_ 5 0) Y0 rfl rfl K (HS.out [] _ _) (fun W15 K hH=>?_)
 refine tk_ 0 5 ?_ (bm_ 5 1) rfl rfl Y0 (fun _ _ _ h=>h) F0 ?_ hH ?_ ?_ ?_
 rotate_left
 ·rintro w' ⟨s0,s1,s2,s3⟩
  go_simp
  with_reducible rfl
 rotate_left
 ·simp only[Act.put,kss,i64_w,i32_w]
  rfl
 refine tk_ 1 6 ?_ (bm_ 5 3) rfl rfl Y0 (fun _ _ _ h=>h) F0 ?_ hH ?_ ?_ ?_
 rotate_left
 ·rintro w' ⟨s0,s1,s2,s3⟩
  go_simp
  with_reducible rfl
 rotate_left
 ·simp only[Act.put,kss,i64_w,i32_w]
  rfl
 refine one_ (i:=2) (N:=some 7) (bm_ 5 7) rfl rfl Y0 X0 (fun Kc hK=>?_)
 refine kgo Tryz.func158 #[.agg #[.slice ag ab.length ah,.bool ad]] F0 rfl rfl ?_
 refine(whole_number_opposite.calls _ _ _ ab ad x7 z8 _ (K.V 1 (hv hVs rfl)) A9.out).mono ?_
 rintro e W' ⟨v13,rfl,ak,hb⟩
 replace K:=K.addI 0 (fun k=>P1_0_ k) hb ak (fun _ h=>h)
 clear hb ak
 refine⟨_,rfl,hK.out _ _ (HS.out _ _ _ _ K) fun hH=>?_⟩
 clear hK Kc
 refine norm_ (a':=?_) ?_ ?_
 rotate_left
 ·show Act.put _ (some 7) _=_
  simp only[Act.put,kss,i64_w,i32_w]
  rfl
 refine one_ (i:=3) (N:=some 8) (bm_ 5 15) rfl rfl Y0 X0 (fun Kc hK=>?_)
 obtain⟨P17,c18,e19⟩:=K.slice 2 (hv hVs rfl)
 subst e19
 refine kgo Tryz.func143 #[.agg #[.slice ae aa.length af,.bool ac],.agg #[.slice P17 x7.length c18,.bool z8]] F0 rfl rfl ?_
 refine(whole_number_plus.calls _ _ _ _ aa ac _ _ _ x7 z8 x10 z11 _ (K.V 0 (hv hVs rfl)) (K.V 2 (hv hVs rfl)) A12.out).mono ?_
 rintro e W' ⟨v14,rfl,al,hb⟩
 replace K:=K.addI 1 (fun k=>(fun k=>P0_0_ k) k∨(fun k=>P1_0_ k) k) hb al (fun _ h=>h.elim (fun h=>(h).l) fun h=>(h).r)
 clear hb al
 refine⟨_,rfl,hK.out _ _ (HS.out _ _ _ _ K) fun hH=>?_⟩
 clear hK Kc
 refine norm_ (a':=?_) ?_ ?_
 rotate_left
 ·show Act.put _ (some 8) _=_
  simp only[Act.put,kss,i64_w,i32_w]
  rfl
 obtain⟨P21,c22,e23⟩:=K.slice 3 (hv hVs rfl)
 subst e23
 rw[hBs.out,hVs.out,hOs.out]at K
 simp only[kls,klv]at K
 clear hBs hVs hOs HS hH
 refine ko2 (i:=4) (bm_ 5 31) 2 (.slice P21 x10.length c22) (.bool z11) K rfl rfl rfl Y0 X0 F0 (fun W K=>⟨K.cell 0 rfl 0 rfl,K.cell 0 rfl 1 rfl,K.cell 1 rfl 0 rfl,K.cell 1 rfl 1 rfl⟩) ?_
 clear K
 intro W24 K
 simp only[kls,klv]at K
 refine done_ Y0 ?_
 simp only[Option.some.injEq,Prod.mk.injEq]at h
 obtain⟨rfl,rfl⟩:=h
 go_wp2
 refine bodyPost_ret (results_single rfl (.cell g5 90 #[.slice P21 x10.length c22,.bool z11] (0,0) _ rfl (K.u.heap 2 rfl) Tryz.underlying90 rfl Y0 .nil)) rfl ?_
 exact⟨_,rfl,K.u.hand 3 rfl (fun k_ h=>by first|exact h|exact .inr (h.resolve_left id)|(simp only[or_false,false_or,or_self]at h ⊢;first|exact h|(rcases h with h|h<;>simp_all)|simp_all)),K.u.below⟩
def whole_one.f:Option (List Int×Bool):=some ((([1]:List Int)),false)
theorem whole_one.calls (r1:List Int) (r2:Bool) (w:World) (h:whole_one.f=some (r1,r2)) :
  Calls Tryz.prog 145 #[] w fun e w'=>∃v0_:Value,e=.returned (.agg #[v0_,.bool r2])∧Kd.R (Kd.int .u64) 48 w' w.heap.size (fun _=>True) v0_ r1∧Below w.heap.size w w':=by
 have am:=Tryz.underlying90
 have HB:=Aside0.mk (Below.refl w.heap.size w)
 have H:(some ((([1]:List Int)),false))=some (r1,r2):=h
 clear h
 obtain⟨ad,ab⟩:∃y_:List Int,y_=(([1]:List Int)):=⟨_,rfl⟩
 replace H:(some (ad,false))=some (r1,r2):=by first|(rw[ab];with_reducible exact H)|(have H2_:=(Option.bind_some _ _).symm.trans H;rw[ab];with_reducible exact H2_)|(have H2_:=(Option.bind_some _ _).symm.trans H;with_reducible exact H2_)|with_reducible exact H|(rw[ab];exact H)|exact H
 have ae:=Aside0.mk ab
 clear ab
 simp only[Option.some.injEq,Prod.mk.injEq]at H
 obtain⟨rfl,rfl⟩:=H
 go_enter Tryz.func145,Tryz.ntmps145
 go_wp2_with (first|(refine gd 0 rfl ?_;refine kbe 0 #[.slice none 0 0,.bool false] 90 ?_;intro ac hg w1 hbox hb;have aa:=Aside0.mk (hbox);have al:=kbz hg HB;have ag:=kbz hg HB;replace HB:=kbs HB hb;clear hb hbox hg)|(refine gd 1 rfl ?_;refine Kd.R_lit (Kd.int .u64) _ 48 ?hg (N:=1) ?hd (xs:=([1]:List Int)) (inner:=[.int .u64 1]) (ok:=fun _=>True) (okp:=fun _=>True) ?hr ?hp (fun _ hk=>hk) trivial (Below.refl _ _) (Nat.le_refl _) Z1 ?_;(case hd=>rfl);(case hg=>rfl);(case hr=>first|(go_simp;done)|(go_simp;rfl));(case hp=>exact(Reps.one (show Kd.M (Kd.int .u64) _ _ _ 1 [.int .u64 1] from rfl) (Reps.none _ _)));intro an w2 ho3 hb hg_ hnew_;clear hg_ hnew_;(first|rw[←ae.out]at ho3|(simp only[Int.reduceToNat]at ho3;rw[←ae.out]at ho3));have af:=Aside0.mk (Kd.R_lower ho3 (below_size (khu HB.out)));replace aa:=kbb aa hb;replace HB:=kbs HB hb;clear hb ho3;obtain⟨Ao4,co4,eo4⟩:=Kd.R_slice af.out;subst eo4;have ah:w2.cell? ⟨ac,0,none⟩=some (.slice none 0 0):=(blk_cell aa.out 0).trans rfl;have ai:w2.cell? ⟨ac,1,none⟩=some (.bool false):=(blk_cell aa.out 1).trans rfl;have aj:=blk_frozen aa.out 0;have ak:=blk_frozen aa.out 1))
 refine bodyPost_ret (results_cell_row rfl _ _ ac 90 #[.slice Ao4 ad.length co4,.bool false] (0,0) _ rfl (kpu #[.slice Ao4 ad.length co4,.bool false] 1 (kpu #[.slice none 0 0,.bool false] 0 (kbu aa.out))) Tryz.underlying90 rfl Y0) rfl ?_
 exact⟨_,D0,by(with_reducible repeat (first|apply Kd.R_alloc|apply Kd.R_drewN|apply Kd.R_drew));exact Kd.R_mono (Kd.R_far (p:=⟨ac,1,none⟩) (Kd.R_far (p:=⟨ac,0,none⟩) (Kd.R_types af.out aa.out X0) (fun _ hk=>hk.2) (.slice Ao4 ad.length co4)) (fun _ hk=>hk.2) (.bool false)) (fun _ hk=>trivial),by repeat (first|(with_reducible first|exact HB.out|apply below_alloc|apply pw_below_drewN|apply below_drew1|refine below_set ?_ ag.out)|exact HB.out)⟩
def whole_DivMod.f (k:Nat) (a0_0:Bool) (l0_1:List Int) (a1_0:Bool) (l1_1:List Int):Option (Bool×List Int×Bool×List Int×Int):=(whole_of.f k a1_0 l1_1).bind fun bt598=>((whole_amount_null.f bt598.1).bind fun t603=>(if t603=true then(some (false,([]:List Int),false,([]:List Int),11)) else((whole_of.f k a0_0 l0_1).bind fun bt604=>((whole_number_cut.f k bt604.1 bt604.2 bt598.1 bt598.2).bind fun bt608=>(if bt608.2.2.2=true then((whole_signed.f bt598.1 false).bind fun bt618=>((whole_number_plus.f k bt608.2.2.1 bt608.2.2.2 bt618.1 bt618.2).bind fun bt622=>(if bt598.2=true then((whole_one.f).bind fun bt626=>((whole_number_plus.f k bt608.1 bt608.2.1 bt626.1 bt626.2).bind fun bt630=>((whole_pair.f k bt630.1 bt630.2 bt622.1 bt622.2).bind fun bt634=>(some (bt634.1,bt634.2.1,bt634.2.2.1,bt634.2.2.2.1,bt634.2.2.2.2))))) else((whole_one.f).bind fun bt643=>((whole_number_minus.f k bt608.1 bt608.2.1 bt643.1 bt643.2).bind fun bt647=>((whole_pair.f k bt647.1 bt647.2 bt622.1 bt622.2).bind fun bt651=>(some (bt651.1,bt651.2.1,bt651.2.2.1,bt651.2.2.2.1,bt651.2.2.2.2)))))))) else((whole_pair.f k bt608.1 bt608.2.1 bt608.2.2.1 bt608.2.2.2).bind fun bt660=>(some (bt660.1,bt660.2.1,bt660.2.2.1,bt660.2.2.2.1,bt660.2.2.2.2))))))))
theorem whole_DivMod.mono:∀a0 a1 a2 a3 k,LeO (whole_DivMod.f k a0 a1 a2 a3) (whole_DivMod.f (k+1) a0 a1 a2 a3):=by
 intro a0 a1 a2 a3 k
 unfold whole_DivMod.f
 repeat' first
   | (with_reducible exact whole_number_cut.mono _ _ _ _ _)
   | (with_reducible exact whole_number_minus.mono _ _ _ _ _)
   | (with_reducible exact whole_number_plus.mono _ _ _ _ _)
   | (with_reducible exact whole_of.mono _ _ _)
   | (with_reducible exact whole_pair.mono _ _ _ _ _)
   | (with_reducible exact LeO.refl _)
   | (with_reducible exact LeO.none _)
   | (with_reducible refine LeO.ite ?_ ?_)
   | (with_reducible refine LeO.bind ?_ (fun _=>?_))
   | exact whole_number_cut.mono _ _ _ _ _
   | exact whole_number_minus.mono _ _ _ _ _
   | exact whole_number_plus.mono _ _ _ _ _
   | exact whole_of.mono _ _ _
   | exact whole_pair.mono _ _ _ _ _
   | exact LeO.none _
   | refine LeO.ite ?_ ?_
   | refine LeO.bind ?_ (fun _=>?_)
def whole_DivMod.T4:Bool×List (List Nat×List Nat):=(true,[([],[]),([0],[0]),([],[]),([1,2,1],[1,2]),([3],[3]),([4],[4]),([4],[4]),([],[]),([],[]),([7,5,3,0,1,2,3,4,5,7,8],[5,7]),([8,6,9,0,1,2,3,4,5,6,7,8,9],[6,8])])
def whole_DivMod.B4:List Nat:=[0,1,0,7,15,31,31,0,0,447,1023]
theorem whole_DivMod.tab4:rtab .any (opsOf Tryz.f71 4)=whole_DivMod.T4:=by kernel_rfl
theorem whole_DivMod.bits4:waitsOk whole_DivMod.T4.2 whole_DivMod.B4=true:=by kernel_rfl
theorem whole_DivMod.calls (k:Nat) (ab:Bool) (ae:Option Addr) (af:Nat) (aa:List Int) (ag:Bool) (aj:Option Addr) (ak:Nat) (ac:List Int) (r1:Bool) (r2:List Int) (r3:Bool) (r4:List Int) (r5:Int) (w:World) (aw:Kd.C (Kd.int .u64) w ae aa.length aa) (ax:aa.length≤af) (ay:Kd.C (Kd.int .u64) w aj ac.length ac) (az:ac.length≤ak) (h:whole_DivMod.f k ab aa ag ac=some (r1,r2,r3,r4,r5)) :
  Calls Tryz.prog 71 #[.agg #[.bool ab,.slice ae aa.length af],.agg #[.bool ag,.slice aj ac.length ak]] w fun e w'=>∃v1_ v3_:Value,e=.returned (.tuple #[.agg #[.bool r1,v1_],.agg #[.bool r3,v3_],.int .i64 r5])∧Kd.R (Kd.int .u64) 48 w' w.heap.size (fun k_=>some k_≠(v3_:Value).ownBlock) v1_ r2∧Kd.R (Kd.int .u64) 48 w' w.heap.size (fun k_=>some k_≠(v1_:Value).ownBlock) v3_ r4∧Below w.heap.size w w':=by
 have aQ:=Tryz.underlying43
 have aR:=Tryz.underlying90
 have K:=Kp.refl w
 replace K:=K.parV (Kd.V_mono (ok':=fun _=>True) (Kd.V_mk (e:=48) (base:=0) ax (Kd.C_F (Kd.heap_int .u64) aw)) (fun _ h=>trivial))
 clear aw ax
 replace K:=K.parV (Kd.V_mono (ok':=fun _=>True) (Kd.V_mk (e:=48) (base:=0) az (Kd.C_F (Kd.heap_int .u64) ay)) (fun _ h=>trivial))
 clear ay az
 try simp only[klv]at K
 rw[whole_DivMod.f]at h
 replace h:=bindA h
 obtain⟨⟨x9,z10⟩,A11,h⟩:=h
 dsimp only at h
 replace h:=bindA h
 obtain⟨z22,A23,h⟩:=h
 by_cases c_0:z22=true
 ·subst c_0
  rw[if_pos rfl]at h
  simp only[Option.some.injEq,Prod.mk.injEq]at h
  obtain⟨rfl,rfl,rfl,rfl,rfl⟩:=h
  go_enter Tryz.func71,Tryz.ntmps71
  go_wp2_with (first|(refine gd 2 rfl ?_;refine kbk 2 #[.bool ab,.slice ae aa.length af] 43 K.u ?_;clear K;intro g1 W2 K)|(refine gd 3 rfl ?_;refine kbk 3 #[.bool ag,.slice aj ac.length ak] 43 K.u ?_;clear K;intro g3 W4 K)|(refine gd 4 rfl ?_;refine kbk 4 #[.bool false,.slice none 0 0] 43 K.u ?_;clear K;intro g5 W6 K)|(refine gd 5 rfl ?_;refine kbk 5 #[.bool false,.slice none 0 0] 43 K.u ?_;clear K;intro g7 W8 K;obtain⟨ua1,ub1⟩:=K.cell2 1 rfl)|(refine gd 11 rfl ?_;clear ua1 ub1;refine kgl (some 11) rfl rfl Tryz.func51 #[.agg #[.bool ag,.slice aj ac.length ak]] rfl ?_;refine(whole_of.calls _ ag _ _ _ ac x9 z10 _ (K.V 1 rfl) A11.out).mono ?_;rintro e W14 ⟨v12,rfl,al,hb⟩;refine⟨_,rfl,?_⟩;replace K:=K.u.add (fun _=>True) hb al (fun _ h=>h.t);clear hb al;obtain⟨P15,c16,e17⟩:=K.slice 2 rfl;subst e17)|(refine gd 7 rfl ?_;refine kbk 7 #[.slice none 0 0,.bool false] 90 K.u ?_;clear K;intro g18 W19 K)|(refine gs 90 7 11 rfl ?_;refine ks2 4 (.slice P15 x9.length c16) (.bool z10) K.u rfl ?_;clear K;intro W20 K;simp only[kls,klv]at K;obtain⟨ua4,ub4⟩:=K.cell2 4 rfl)|(refine gd 14 rfl ?_;clear ua4 ub4;refine kgl (some 14) rfl rfl Tryz.func94 #[.slice P15 x9.length c16] rfl ?_;refine(whole_amount_null.calls _ _ x9 true _ (K.C 2 rfl) (K.le 2 rfl) A23.out).mono ?_;rintro e W24 ⟨rfl,hb⟩;refine⟨_,rfl,?_⟩;replace K:=K.u.up hb.below;clear hb)|(refine gs 43 4 15 rfl ?_;refine ks2 2 (.bool false) (.slice none 0 0) K.u rfl ?_;clear K;intro W25 K;simp only[kls,klv]at K)|(refine gs 43 5 16 rfl ?_;refine ks2 3 (.bool false) (.slice none 0 0) K.u rfl ?_;clear K;intro W27 K;simp only[kls,klv]at K))
  refine bodyPost_ret (results_list (rs:=[.cell 4 43,.cell 5 43,.tmp 6]) rfl Z1 (.cell g5 43 #[.bool false,.slice none 0 0] (0,0) _ rfl (K.u.heap 2 rfl) Tryz.underlying43 rfl Y0 (.cell g7 43 #[.bool false,.slice none 0 0] (0,0) _ rfl (K.u.heap 3 rfl) Tryz.underlying43 rfl Y0 (.tmp .nil)))) rfl ?_
  exact⟨_,_,rfl,Kd.R_nil _ _ _ _ _,Kd.R_nil _ _ _ _ _,K.u.below⟩
 replace c_0:=Bool.eq_false_iff.mpr c_0
 subst c_0
 rw[if_neg X0]at h
 go_enter Tryz.func71,Tryz.ntmps71
 go_wp2_with (first|(refine gd 2 rfl ?_;refine kbk 2 #[.bool ab,.slice ae aa.length af] 43 K.u ?_;clear K;intro g1 W2 K)|(refine gd 3 rfl ?_;refine kbk 3 #[.bool ag,.slice aj ac.length ak] 43 K.u ?_;clear K;intro g3 W4 K)|(refine gd 4 rfl ?_;refine kbk 4 #[.bool false,.slice none 0 0] 43 K.u ?_;clear K;intro g5 W6 K)|(refine gd 5 rfl ?_;refine kbk 5 #[.bool false,.slice none 0 0] 43 K.u ?_;clear K;intro g7 W8 K;obtain⟨ua1,ub1⟩:=K.cell2 1 rfl)|(refine gd 11 rfl ?_;clear ua1 ub1;refine kgl (some 11) rfl rfl Tryz.func51 #[.agg #[.bool ag,.slice aj ac.length ak]] rfl ?_;refine(whole_of.calls _ ag _ _ _ ac x9 z10 _ (K.V 1 rfl) A11.out).mono ?_;rintro e W14 ⟨v12,rfl,al,hb⟩;refine⟨_,rfl,?_⟩;replace K:=K.u.add (fun _=>True) hb al (fun _ h=>h.t);clear hb al;obtain⟨P15,c16,e17⟩:=K.slice 2 rfl;subst e17)|(refine gd 7 rfl ?_;refine kbk 7 #[.slice none 0 0,.bool false] 90 K.u ?_;clear K;intro g18 W19 K)|(refine gs 90 7 11 rfl ?_;refine ks2 4 (.slice P15 x9.length c16) (.bool z10) K.u rfl ?_;clear K;intro W20 K;simp only[kls,klv]at K;obtain⟨ua4,ub4⟩:=K.cell2 4 rfl)|(refine gd 14 rfl ?_;clear ua4 ub4;refine kgl (some 14) rfl rfl Tryz.func94 #[.slice P15 x9.length c16] rfl ?_;refine(whole_amount_null.calls _ _ x9 false _ (K.C 2 rfl) (K.le 2 rfl) A23.out).mono ?_;rintro e W24 ⟨rfl,hb⟩;refine⟨_,rfl,?_⟩;replace K:=K.u.up hb.below;clear hb))
 replace h:=bindA h
 obtain⟨⟨x25,z26⟩,A27,h⟩:=h
 dsimp only at h
 replace h:=bindA h
 obtain⟨⟨x28,z29,x30,z31⟩,A32,h⟩:=h
 dsimp only at h
 obtain⟨Bs,Vs,Os,hBs,hVs,hOs,K⟩:=K.abs
 have HS:Aside0 (∀l m o W,Kp w (Bs++l) m o W→W.cell? ⟨g1,0,none⟩=some (.bool ab)∧W.cell? ⟨g1,1,none⟩=some (.slice ae aa.length af)∧W.cell? ⟨g18,0,none⟩=some (.slice P15 x9.length c16)∧W.cell? ⟨g18,1,none⟩=some (.bool z10)):=⟨fun l m o W K=>by rw[hBs.out]at K;exact⟨K.cell 0 rfl 0 rfl,K.cell 0 rfl 1 rfl,K.cell 4 rfl 0 rfl,K.cell 4 rfl 1 rfl⟩⟩
 refine kpstart (n:=11) (ds:=[]) (S:=fun W=>W.cell? ⟨g1,0,none⟩=some (.bool ab)∧W.cell? ⟨g1,1,none⟩=some (.slice ae aa.length af)∧W.cell? ⟨g18,0,none⟩=some (.slice P15 x9.length c16)∧W.cell? ⟨g18,1,none⟩=some (.bool z10)) (bm_ 11 0) Y0 rfl rfl K (HS.out [] _ _) (fun W38 K hH=>?_)
 refine with_tabW whole_DivMod.tab4 whole_DivMod.bits4 (fun HT_ HW_=>?_)
 refine tk_ 0 18 ?_ (bm_ 11 1) rfl rfl (take_ofW HT_.out HW_.out Y0) (fun _ _ _ h=>h) F0 ?_ hH ?_ ?_ ?_
 rotate_left
 ·rintro w' ⟨s0,s1,s2,s3⟩
  go_simp
  with_reducible rfl
 rotate_left
 ·simp only[Act.put,kss,i64_w,i32_w]
  rfl
 refine tk_ 2 20 ?_ (bm_ 11 5) rfl rfl (take_ofW HT_.out HW_.out Y0) (fun _ _ _ h=>h) F0 ?_ hH ?_ ?_ ?_
 rotate_left
 ·rintro w' ⟨s0,s1,s2,s3⟩
  go_simp
  with_reducible rfl
 rotate_left
 ·simp only[Act.put,kss,i64_w,i32_w]
  rfl
 refine join_ (σ:=Value×Value×Value×Nat×Nat) 2 (bm_ 11 511) (fun s=>[(19,.agg #[s.1,.bool z26]),(21,.tuple #[.agg #[s.2.1,.bool z29],.agg #[s.2.2.1,.bool z31]]),(17,.tuple #[.agg #[s.2.1,.bool z29],.agg #[s.2.2.1,.bool z31]]),(22,.agg #[s.2.1,.bool z29]),(23,.agg #[s.2.2.1,.bool z31]),(8,.pointer (some ⟨s.2.2.2.1,0,none⟩)),(9,.pointer (some ⟨s.2.2.2.2,0,none⟩))]) (fun s W=>Kp w (Bs++[(s.2.2.2.1,#[.slice none 0 0,.bool false],90),(s.2.2.2.2,#[.slice none 0 0,.bool false],90)]) (Vs++[⟨Kd.int .u64,48,s.1,x25,fun _=>True⟩,⟨Kd.int .u64,48,s.2.1,x28,fun _=>True⟩,⟨Kd.int .u64,48,s.2.2.1,x30,fun _=>True⟩]) (Os++[]) W) ?_ (fun J39=>?_)
 ·rintro⟨v33,v34,v35,g36,g37⟩ W K
  try dsimp only at K
  have hH:=HS.out _ _ _ _ K
  refine norm_ (a':=?_) ?_ ?_
  rotate_left
  ·try simp only[putAll,Act.put,kss]
   rfl
  obtain⟨P46,c47,e48⟩:=K.slice 3 (hv hVs rfl)
  subst e48
  obtain⟨P49,c50,e51⟩:=K.slice 4 (hv hVs rfl)
  subst e51
  obtain⟨P52,c53,e54⟩:=K.slice 5 (hv hVs rfl)
  subst e54
  rw[hBs.out,hVs.out,hOs.out]at K
  simp only[kls,klv]at K
  clear hBs hVs hOs HS hH
  refine ko2 (i:=9) (bm_ 11 1023) 5 (.slice P49 x28.length c50) (.bool z29) K rfl rfl rfl (one_of HT_.out Y0) X0 F0 (fun W K=>⟨K.cell 0 rfl 0 rfl,K.cell 0 rfl 1 rfl,K.cell 4 rfl 0 rfl,K.cell 4 rfl 1 rfl⟩) ?_
  clear K
  intro W55 K
  simp only[kls,klv]at K
  refine ko2 (i:=10) (bm_ 11 2047) 6 (.slice P52 x30.length c53) (.bool z31) K rfl rfl rfl (one_of HT_.out Y0) X0 F0 (fun W K=>⟨K.cell 0 rfl 0 rfl,K.cell 0 rfl 1 rfl,K.cell 4 rfl 0 rfl,K.cell 4 rfl 1 rfl⟩) ?_
  clear K
  intro W56 K
  simp only[kls,klv]at K
  refine done_ (done_of HT_.out Y0) ?_
  clear HT_ HW_
  by_cases c_1:z31=true
  ·subst c_1
   rw[if_pos rfl]at h
   obtain⟨ua6,ub6⟩:=K.cell2 6 rfl
   go_wp2
   clear ua6 ub6
   replace h:=bindA h
   obtain⟨⟨x57,z58⟩,A59,h⟩:=h
   dsimp only at h
   replace h:=bindA h
   obtain⟨⟨x60,z61⟩,A62,h⟩:=h
   dsimp only at h
   obtain⟨Bs,Vs,Os,hBs,hVs,hOs,K⟩:=K.abs
   have HS:Aside0 (∀l m o W,Kp w (Bs++l) m o W→W.cell? ⟨g37,0,none⟩=some (.slice P52 x30.length c53)∧W.cell? ⟨g37,1,none⟩=some (.bool true)∧W.cell? ⟨g18,0,none⟩=some (.slice P15 x9.length c16)∧W.cell? ⟨g18,1,none⟩=some (.bool z10)):=⟨fun l m o W K=>by rw[hBs.out]at K;exact⟨K.cell 6 rfl 0 rfl,K.cell 6 rfl 1 rfl,K.cell 4 rfl 0 rfl,K.cell 4 rfl 1 rfl⟩⟩
   refine kpstart (n:=6) (ds:=[5]) (S:=fun W=>W.cell? ⟨g37,0,none⟩=some (.slice P52 x30.length c53)∧W.cell? ⟨g37,1,none⟩=some (.bool true)∧W.cell? ⟨g18,0,none⟩=some (.slice P15 x9.length c16)∧W.cell? ⟨g18,1,none⟩=some (.bool z10)) (bm_ 6 0) Y0 rfl rfl K (HS.out [] _ _) (fun W65 K hH=>?_)
   refine tk_ 0 26 ?_ (bm_ 6 1) rfl rfl Y0 (fun _ _ _ h=>h) F0 ?_ hH ?_ ?_ ?_
   rotate_left
   ·rintro w' ⟨s0,s1,s2,s3⟩
    go_simp
    with_reducible rfl
   rotate_left
   ·simp only[Act.put,kss,i64_w,i32_w]
    rfl
   refine pu_ 1 27 ?_ (bm_ 6 3) rfl rfl Y0 (fun _ _ _ h=>h) F0 ?_ ?_ ?_ ?_
   rotate_left
   ·intro w'
    go_simp
    with_reducible rfl
   rotate_left
   ·simp only[Act.put,kss,i64_w,i32_w]
    rfl
   refine tk_ 2 28 ?_ (bm_ 6 7) rfl rfl Y0 (fun _ _ _ h=>h) F0 ?_ hH ?_ ?_ ?_
   rotate_left
   ·rintro w' ⟨s0,s1,s2,s3⟩
    go_simp
    with_reducible rfl
   rotate_left
   ·simp only[Act.put,kss,i64_w,i32_w]
    rfl
   refine one_ (i:=3) (N:=some 29) (bm_ 6 15) rfl rfl Y0 X0 (fun Kc hK=>?_)
   refine kgo Tryz.func144 #[.slice P15 x9.length c16,.bool false] F0 rfl rfl ?_
   refine(whole_signed.calls _ _ _ x9 false x57 z58 _ (K.V 2 (hv hVs rfl)) A59.out).mono ?_
   rintro e W' ⟨v63,rfl,am,hb⟩
   replace K:=K.addI 0 (fun _=>True) hb am (fun _ h=>h.t)
   clear hb am
   refine⟨_,rfl,hK.out _ _ (HS.out _ _ _ _ K) fun hH=>?_⟩
   clear hK Kc
   refine norm_ (a':=?_) ?_ ?_
   rotate_left
   ·show Act.put _ (some 29) _=_
    simp only[Act.put,kss,i64_w,i32_w]
    rfl
   refine one_ (i:=4) (N:=some 30) (bm_ 6 31) rfl rfl Y0 X0 (fun Kc hK=>?_)
   obtain⟨P67,c68,e69⟩:=K.slice 6 (hv hVs rfl)
   subst e69
   refine kgo Tryz.func143 #[.agg #[.slice P52 x30.length c53,.bool true],.agg #[.slice P67 x57.length c68,.bool z58]] F0 rfl rfl ?_
   refine(whole_number_plus.calls _ _ _ _ x30 true _ _ _ x57 z58 x60 z61 _ (K.V 5 (hv hVs rfl)) (K.V 6 (hv hVs rfl)) A62.out).mono ?_
   rintro e W' ⟨v64,rfl,aB,hb⟩
   replace K:=K.addI 1 (fun _=>True) hb aB (fun _ h=>h.elim (fun h=>h.t) fun h=>h.t)
   clear hb aB
   refine⟨_,rfl,hK.out _ _ (HS.out _ _ _ _ K) fun hH=>?_⟩
   clear hK Kc
   refine norm_ (a':=?_) ?_ ?_
   rotate_left
   ·show Act.put _ (some 30) _=_
    simp only[Act.put,kss,i64_w,i32_w]
    rfl
   obtain⟨P71,c72,e73⟩:=K.slice 7 (hv hVs rfl)
   subst e73
   rw[hBs.out,hVs.out,hOs.out]at K
   simp only[kls,klv]at K
   clear hBs hVs hOs HS hH
   refine klast2 (i:=5) (bm_ 6 63) 6 (.slice P71 x60.length c72) (.bool z61) K rfl rfl rfl Y0 X0 F0 ?_ ?_
   ·intro c0 c1 f0 f1
    first|(go_simp;done)|(go_simp;rfl)
   clear K
   intro W74 K
   simp only[kls,klv]at K
   refine done_ Y0 ?_
   by_cases c_2:z10=true
   ·subst c_2
    rw[if_pos rfl]at h
    obtain⟨ua4,ub4⟩:=K.cell2 4 rfl
    go_wp2
    clear ua4 ub4
    replace h:=bindA h
    obtain⟨⟨x75,z76⟩,A77,h⟩:=h
    dsimp only at h
    replace h:=bindA h
    obtain⟨⟨x78,z79⟩,A80,h⟩:=h
    dsimp only at h
    obtain⟨Bs,Vs,Os,hBs,hVs,hOs,K⟩:=K.abs
    have HS:Aside0 (∀l m o W,Kp w (Bs++l) m o W→W.cell? ⟨g36,0,none⟩=some (.slice P49 x28.length c50)∧W.cell? ⟨g36,1,none⟩=some (.bool z29)):=⟨fun l m o W K=>by rw[hBs.out]at K;exact⟨K.cell 5 rfl 0 rfl,K.cell 5 rfl 1 rfl⟩⟩
    refine kpstart (n:=4) (ds:=[3]) (S:=fun W=>W.cell? ⟨g36,0,none⟩=some (.slice P49 x28.length c50)∧W.cell? ⟨g36,1,none⟩=some (.bool z29)) (bm_ 4 0) Y0 rfl rfl K (HS.out [] _ _) (fun W83 K hH=>?_)
    refine tk_ 0 33 ?_ (bm_ 4 1) rfl rfl Y0 (fun _ _ _ h=>h) F0 ?_ hH ?_ ?_ ?_
    rotate_left
    ·rintro w' ⟨s0,s1⟩
     go_simp
     with_reducible rfl
    rotate_left
    ·simp only[Act.put,kss,i64_w,i32_w]
     rfl
    refine one_ (i:=1) (N:=some 34) (bm_ 4 3) rfl rfl Y0 X0 (fun Kc hK=>?_)
    refine kgo Tryz.func145 #[] F0 rfl rfl ?_
    refine(whole_one.calls x75 z76 _ A77.out).mono ?_
    rintro e W' ⟨v81,rfl,an,hb⟩
    replace K:=K.addRI 0 0 hb an (lb rfl)
    clear hb an
    refine⟨_,rfl,hK.out _ _ (HS.out _ _ _ _ K) fun hH=>?_⟩
    clear hK Kc
    refine norm_ (a':=?_) ?_ ?_
    rotate_left
    ·show Act.put _ (some 34) _=_
     simp only[Act.put,kss,i64_w,i32_w]
     rfl
    refine one_ (i:=2) (N:=some 35) (bm_ 4 7) rfl rfl Y0 X0 (fun Kc hK=>?_)
    obtain⟨P85,c86,e87⟩:=K.slice 8 (hv hVs rfl)
    subst e87
    refine kgo Tryz.func143 #[.agg #[.slice P49 x28.length c50,.bool z29],.agg #[.slice P85 x75.length c86,.bool z76]] F0 rfl rfl ?_
    refine(whole_number_plus.calls _ _ _ _ x28 z29 _ _ _ x75 z76 x78 z79 _ (K.V 4 (hv hVs rfl)) (K.V 8 (hv hVs rfl)) A80.out).mono ?_
    rintro e W' ⟨v82,rfl,ah,hb⟩
    replace K:=K.addI 1 (fun _=>True) hb ah (fun _ h=>h.elim (fun h=>h.t) fun h=>h.t)
    clear hb ah
    refine⟨_,rfl,hK.out _ _ (HS.out _ _ _ _ K) fun hH=>?_⟩
    clear hK Kc
    refine norm_ (a':=?_) ?_ ?_
    rotate_left
    ·show Act.put _ (some 35) _=_
     simp only[Act.put,kss,i64_w,i32_w]
     rfl
    obtain⟨P89,c90,e91⟩:=K.slice 9 (hv hVs rfl)
    subst e91
    rw[hBs.out,hVs.out,hOs.out]at K
    simp only[kls,klv]at K
    clear hBs hVs hOs HS hH
    refine klast2 (i:=3) (bm_ 4 15) 5 (.slice P89 x78.length c90) (.bool z79) K rfl rfl rfl Y0 X0 F0 ?_ ?_
    ·intro c0 c1 f0 f1
     first|(go_simp;done)|(go_simp;rfl)
    clear K
    intro W92 K
    simp only[kls,klv]at K
    refine done_ Y0 ?_
    replace h:=bindA h
    obtain⟨⟨z93,x94,z95,x96,n97⟩,A98,h⟩:=h
    dsimp only at h
    simp only[Option.some.injEq,Prod.mk.injEq]at h
    obtain⟨rfl,rfl,rfl,rfl,rfl⟩:=h
    obtain⟨ua5,ub5⟩:=K.cell2 5 rfl
    obtain⟨ua6,ub6⟩:=K.cell2 6 rfl
    go_wp2_with (first|(refine gd 41 rfl ?_;clear ua5 ub5 ua6 ub6;refine kgl (some 41) rfl rfl Tryz.func147 #[.agg #[.slice P89 x78.length c90,.bool z79],.agg #[.slice P71 x60.length c72,.bool z61]] rfl ?_;refine(whole_pair.calls _ _ _ x78 z79 _ _ x60 z61 z93 x94 z95 x96 n97 _ (K.C 9 rfl) (K.le 9 rfl) (K.C 7 rfl) (K.le 7 rfl) A98.out).mono ?_;rintro e aM ⟨v99,aN,rfl,ad,ai,hb⟩;refine⟨_,rfl,?_⟩;replace K:=K.u.addR2 hb ad ai;clear hb ad ai;obtain⟨ao,ap,au⟩:=K.slice 10 rfl;subst au;obtain⟨aq,ar,av⟩:=K.slice 11 rfl;subst av)|(refine gs 43 4 42 rfl ?_;refine ks2 2 (.bool z93) (.slice ao x94.length ap) K.u rfl ?_;clear K;intro aO K;simp only[kls,klv]at K)|(refine gs 43 5 43 rfl ?_;refine ks2 3 (.bool z95) (.slice aq x96.length ar) K.u rfl ?_;clear K;intro aP K;simp only[kls,klv]at K))
    refine bodyPost_ret (results_list (rs:=[.cell 4 43,.cell 5 43,.tmp 6]) rfl Z1 (.cell g5 43 #[.bool z93,.slice ao x94.length ap] (0,0) _ rfl (K.u.heap 2 rfl) Tryz.underlying43 rfl Y0 (.cell g7 43 #[.bool z95,.slice aq x96.length ar] (0,0) _ rfl (K.u.heap 3 rfl) Tryz.underlying43 rfl Y0 (.tmp .nil)))) rfl ?_
    exact⟨_,_,rfl,K.u.Rne 1 rfl rfl fun k_ h_=>K.apart 1 2 rfl rfl X0 k_ h_,K.u.Rne 2 rfl rfl fun k_ h_=>K.apart 2 1 rfl rfl X0 k_ h_,K.u.below⟩
   replace c_2:=Bool.eq_false_iff.mpr c_2
   subst c_2
   rw[if_neg X0]at h
   obtain⟨ua4,ub4⟩:=K.cell2 4 rfl
   go_wp2
   clear ua4 ub4
   replace h:=bindA h
   obtain⟨⟨x75,z76⟩,A77,h⟩:=h
   dsimp only at h
   replace h:=bindA h
   obtain⟨⟨x78,z79⟩,A80,h⟩:=h
   dsimp only at h
   obtain⟨Bs,Vs,Os,hBs,hVs,hOs,K⟩:=K.abs
   have HS:Aside0 (∀l m o W,Kp w (Bs++l) m o W→W.cell? ⟨g36,0,none⟩=some (.slice P49 x28.length c50)∧W.cell? ⟨g36,1,none⟩=some (.bool z29)):=⟨fun l m o W K=>by rw[hBs.out]at K;exact⟨K.cell 5 rfl 0 rfl,K.cell 5 rfl 1 rfl⟩⟩
   refine kpstart (n:=4) (ds:=[3]) (S:=fun W=>W.cell? ⟨g36,0,none⟩=some (.slice P49 x28.length c50)∧W.cell? ⟨g36,1,none⟩=some (.bool z29)) (bm_ 4 0) Y0 rfl rfl K (HS.out [] _ _) (fun W83 K hH=>?_)
   refine tk_ 0 36 ?_ (bm_ 4 1) rfl rfl Y0 (fun _ _ _ h=>h) F0 ?_ hH ?_ ?_ ?_
   rotate_left
   ·rintro w' ⟨s0,s1⟩
    go_simp
    with_reducible rfl
   rotate_left
   ·simp only[Act.put,kss,i64_w,i32_w]
    rfl
   refine one_ (i:=1) (N:=some 37) (bm_ 4 3) rfl rfl Y0 X0 (fun Kc hK=>?_)
   refine kgo Tryz.func145 #[] F0 rfl rfl ?_
   refine(whole_one.calls x75 z76 _ A77.out).mono ?_
   rintro e W' ⟨v81,rfl,an,hb⟩
   replace K:=K.addRI 0 0 hb an (lb rfl)
   clear hb an
   refine⟨_,rfl,hK.out _ _ (HS.out _ _ _ _ K) fun hH=>?_⟩
   clear hK Kc
   refine norm_ (a':=?_) ?_ ?_
   rotate_left
   ·show Act.put _ (some 37) _=_
    simp only[Act.put,kss,i64_w,i32_w]
    rfl
   refine one_ (i:=2) (N:=some 38) (bm_ 4 7) rfl rfl Y0 X0 (fun Kc hK=>?_)
   obtain⟨P85,c86,e87⟩:=K.slice 8 (hv hVs rfl)
   subst e87
   refine kgo Tryz.func146 #[.agg #[.slice P49 x28.length c50,.bool z29],.agg #[.slice P85 x75.length c86,.bool z76]] F0 rfl rfl ?_
   refine(whole_number_minus.calls _ _ _ _ x28 z29 _ _ _ x75 z76 x78 z79 _ (K.V 4 (hv hVs rfl)) (K.V 8 (hv hVs rfl)) A80.out).mono ?_
   rintro e W' ⟨v82,rfl,ah,hb⟩
   replace K:=K.addI 1 (fun _=>True) hb ah (fun _ h=>h.elim (fun h=>h.t) fun h=>h.t)
   clear hb ah
   refine⟨_,rfl,hK.out _ _ (HS.out _ _ _ _ K) fun hH=>?_⟩
   clear hK Kc
   refine norm_ (a':=?_) ?_ ?_
   rotate_left
   ·show Act.put _ (some 38) _=_
    simp only[Act.put,kss,i64_w,i32_w]
    rfl
   obtain⟨P89,c90,e91⟩:=K.slice 9 (hv hVs rfl)
   subst e91
   rw[hBs.out,hVs.out,hOs.out]at K
   simp only[kls,klv]at K
   clear hBs hVs hOs HS hH
   refine klast2 (i:=3) (bm_ 4 15) 5 (.slice P89 x78.length c90) (.bool z79) K rfl rfl rfl Y0 X0 F0 ?_ ?_
   ·intro c0 c1 f0 f1
    first|(go_simp;done)|(go_simp;rfl)
   clear K
   intro W92 K
   simp only[kls,klv]at K
   refine done_ Y0 ?_
   replace h:=bindA h
   obtain⟨⟨z93,x94,z95,x96,n97⟩,A98,h⟩:=h
   dsimp only at h
   simp only[Option.some.injEq,Prod.mk.injEq]at h
   obtain⟨rfl,rfl,rfl,rfl,rfl⟩:=h
   obtain⟨ua5,ub5⟩:=K.cell2 5 rfl
   obtain⟨ua6,ub6⟩:=K.cell2 6 rfl
   go_wp2_with (first|(refine gd 41 rfl ?_;clear ua5 ub5 ua6 ub6;refine kgl (some 41) rfl rfl Tryz.func147 #[.agg #[.slice P89 x78.length c90,.bool z79],.agg #[.slice P71 x60.length c72,.bool z61]] rfl ?_;refine(whole_pair.calls _ _ _ x78 z79 _ _ x60 z61 z93 x94 z95 x96 n97 _ (K.C 9 rfl) (K.le 9 rfl) (K.C 7 rfl) (K.le 7 rfl) A98.out).mono ?_;rintro e aM ⟨v99,aN,rfl,ad,ai,hb⟩;refine⟨_,rfl,?_⟩;replace K:=K.u.addR2 hb ad ai;clear hb ad ai;obtain⟨ao,ap,au⟩:=K.slice 10 rfl;subst au;obtain⟨aq,ar,av⟩:=K.slice 11 rfl;subst av)|(refine gs 43 4 42 rfl ?_;refine ks2 2 (.bool z93) (.slice ao x94.length ap) K.u rfl ?_;clear K;intro aO K;simp only[kls,klv]at K)|(refine gs 43 5 43 rfl ?_;refine ks2 3 (.bool z95) (.slice aq x96.length ar) K.u rfl ?_;clear K;intro aP K;simp only[kls,klv]at K))
   refine bodyPost_ret (results_list (rs:=[.cell 4 43,.cell 5 43,.tmp 6]) rfl Z1 (.cell g5 43 #[.bool z93,.slice ao x94.length ap] (0,0) _ rfl (K.u.heap 2 rfl) Tryz.underlying43 rfl Y0 (.cell g7 43 #[.bool z95,.slice aq x96.length ar] (0,0) _ rfl (K.u.heap 3 rfl) Tryz.underlying43 rfl Y0 (.tmp .nil)))) rfl ?_
   exact⟨_,_,rfl,K.u.Rne 1 rfl rfl fun k_ h_=>K.apart 1 2 rfl rfl X0 k_ h_,K.u.Rne 2 rfl rfl fun k_ h_=>K.apart 2 1 rfl rfl X0 k_ h_,K.u.below⟩
  replace c_1:=Bool.eq_false_iff.mpr c_1
  subst c_1
  rw[if_neg X0]at h
  replace h:=bindA h
  obtain⟨⟨z57,x58,z59,x60,n61⟩,A62,h⟩:=h
  dsimp only at h
  simp only[Option.some.injEq,Prod.mk.injEq]at h
  obtain⟨rfl,rfl,rfl,rfl,rfl⟩:=h
  obtain⟨ua6,ub6⟩:=K.cell2 6 rfl
  obtain⟨ua5,ub5⟩:=K.cell2 5 rfl
  go_wp2_with (first|(refine gd 41 rfl ?_;clear ua6 ub6 ua5 ub5;refine kgl (some 41) rfl rfl Tryz.func147 #[.agg #[.slice P49 x28.length c50,.bool z29],.agg #[.slice P52 x30.length c53,.bool false]] rfl ?_;refine(whole_pair.calls _ _ _ x28 z29 _ _ x30 false z57 x58 z59 x60 n61 _ (K.C 4 rfl) (K.le 4 rfl) (K.C 5 rfl) (K.le 5 rfl) A62.out).mono ?_;rintro e W67 ⟨v63,v64,rfl,aC,am,hb⟩;refine⟨_,rfl,?_⟩;replace K:=K.u.addR2 hb aC am;clear hb aC am;obtain⟨P68,c69,e70⟩:=K.slice 6 rfl;subst e70;obtain⟨P71,c72,e73⟩:=K.slice 7 rfl;subst e73)|(refine gs 43 4 42 rfl ?_;refine ks2 2 (.bool z57) (.slice P68 x58.length c69) K.u rfl ?_;clear K;intro W74 K;simp only[kls,klv]at K)|(refine gs 43 5 43 rfl ?_;refine ks2 3 (.bool z59) (.slice P71 x60.length c72) K.u rfl ?_;clear K;intro W76 K;simp only[kls,klv]at K))
  refine bodyPost_ret (results_list (rs:=[.cell 4 43,.cell 5 43,.tmp 6]) rfl Z1 (.cell g5 43 #[.bool z57,.slice P68 x58.length c69] (0,0) _ rfl (K.u.heap 2 rfl) Tryz.underlying43 rfl Y0 (.cell g7 43 #[.bool z59,.slice P71 x60.length c72] (0,0) _ rfl (K.u.heap 3 rfl) Tryz.underlying43 rfl Y0 (.tmp .nil)))) rfl ?_
  exact⟨_,_,rfl,K.u.Rne 0 rfl rfl fun k_ h_=>K.apart 0 1 rfl rfl X0 k_ h_,K.u.Rne 1 rfl rfl fun k_ h_=>K.apart 1 0 rfl rfl X0 k_ h_,K.u.below⟩
 refine join_ (σ:=Value×Value×Value×Nat×Nat) 3 (bm_ 11 383) (fun s=>[(19,.agg #[s.1,.bool z26]),(21,.tuple #[.agg #[s.2.1,.bool z29],.agg #[s.2.2.1,.bool z31]]),(17,.tuple #[.agg #[s.2.1,.bool z29],.agg #[s.2.2.1,.bool z31]]),(22,.agg #[s.2.1,.bool z29]),(23,.agg #[s.2.2.1,.bool z31]),(9,.pointer (some ⟨s.2.2.2.2,0,none⟩))]) (fun s W=>Kp w (Bs++[(s.2.2.2.2,#[.slice none 0 0,.bool false],90)]) (Vs++[⟨Kd.int .u64,48,s.1,x25,fun _=>True⟩,⟨Kd.int .u64,48,s.2.1,x28,fun _=>True⟩,⟨Kd.int .u64,48,s.2.2.1,x30,fun _=>True⟩]) (Os++[]) W) ?_ (fun J40=>?_)
 ·rintro⟨v33,v34,v35,g36,g37⟩ W K
  try dsimp only at K
  have hH:=HS.out _ _ _ _ K
  refine norm_ (a':=?_) ?_ ?_
  rotate_left
  ·try simp only[putAll,Act.put,kss]
   rfl
  refine one_ (i:=7) (N:=some 8) (bm_ 11 511) rfl rfl (one_of HT_.out Y0) X0 (fun Kc hK=>?_)
  exact kbx #[.slice none 0 0,.bool false] 90 8 fun g36 hg W' hx hb=>hK.out _ _ (HS.out _ _ _ _ (K.boxI 0 (lb rfl) hg hx hb)) fun _=>knq (J39 (v33,v34,v35,g36,g37) _ (K.boxI 0 (lb rfl) hg hx hb))
 refine join_ (σ:=Value×Value×Value×Nat×Nat) 3 (bm_ 11 255) (fun s=>[(19,.agg #[s.1,.bool z26]),(21,.tuple #[.agg #[s.2.1,.bool z29],.agg #[s.2.2.1,.bool z31]]),(17,.tuple #[.agg #[s.2.1,.bool z29],.agg #[s.2.2.1,.bool z31]]),(22,.agg #[s.2.1,.bool z29]),(23,.agg #[s.2.2.1,.bool z31]),(8,.pointer (some ⟨s.2.2.2.1,0,none⟩))]) (fun s W=>Kp w (Bs++[(s.2.2.2.1,#[.slice none 0 0,.bool false],90)]) (Vs++[⟨Kd.int .u64,48,s.1,x25,fun _=>True⟩,⟨Kd.int .u64,48,s.2.1,x28,fun _=>True⟩,⟨Kd.int .u64,48,s.2.2.1,x30,fun _=>True⟩]) (Os++[]) W) ?_ (fun J41=>?_)
 ·rintro⟨v33,v34,v35,g36,g37⟩ W K
  try dsimp only at K
  have hH:=HS.out _ _ _ _ K
  refine norm_ (a':=?_) ?_ ?_
  rotate_left
  ·try simp only[putAll,Act.put,kss]
   rfl
  refine one_ (i:=8) (N:=some 9) (bm_ 11 511) rfl rfl (one_of HT_.out Y0) X0 (fun Kc hK=>?_)
  exact kbx #[.slice none 0 0,.bool false] 90 9 fun g37 hg W' hx hb=>hK.out _ _ (HS.out _ _ _ _ (K.boxI 1 (lb rfl) hg hx hb)) fun _=>knq (J39 (v33,v34,v35,g36,g37) _ (K.boxI 1 (lb rfl) hg hx hb))
 refine join_ (σ:=Value×Value×Value×Nat×Nat) 6 (bm_ 11 391) (fun s=>[(19,.agg #[s.1,.bool z26]),(8,.pointer (some ⟨s.2.2.2.1,0,none⟩)),(9,.pointer (some ⟨s.2.2.2.2,0,none⟩))]) (fun s W=>Kp w (Bs++[(s.2.2.2.1,#[.slice none 0 0,.bool false],90),(s.2.2.2.2,#[.slice none 0 0,.bool false],90)]) (Vs++[⟨Kd.int .u64,48,s.1,x25,fun _=>True⟩]) (Os++[]) W) ?_ (fun J42=>?_)
 ·rintro⟨v33,v34,v35,g36,g37⟩ W K
  try dsimp only at K
  have hH:=HS.out _ _ _ _ K
  refine norm_ (a':=?_) ?_ ?_
  rotate_left
  ·try simp only[putAll,Act.put,kss]
   rfl
  refine one_ (i:=3) (N:=some 21) (bm_ 11 399) rfl rfl (one_of HT_.out Y0) X0 (fun Kc hK=>?_)
  obtain⟨P78,c79,e80⟩:=K.slice 3 (hv hVs rfl)
  subst e80
  refine kgo Tryz.func142 #[.agg #[.slice P78 x25.length c79,.bool z26],.agg #[.slice P15 x9.length c16,.bool z10]] F0 rfl rfl ?_
  refine(whole_number_cut.calls _ _ _ _ x25 z26 _ _ x9 z10 x28 z29 x30 z31 _ (K.V 3 (hv hVs rfl)) (K.C 2 (hv hVs rfl)) (K.le 2 (hv hVs rfl)) A32.out).mono ?_
  rintro e W' ⟨v34,v35,rfl,aD,aE,hb⟩
  have K1:=K.addI 1 (fun _=>True) hb aD (fun _ h=>h.t)
  replace K:=K.moreI 2 (fun _=>True) K1 aE (fun _ h=>h.t)
  clear K1
  clear hb aD aE
  refine⟨_,rfl,hK.out _ _ (HS.out _ _ _ _ K) fun hH=>?_⟩
  refine norm_ (a':=?_) ?_ ?_
  rotate_left
  ·show Act.put _ (some 21) _=_
   simp only[Act.put,kss,i64_w,i32_w]
   rfl
  refine pu_ 4 17 ?_ (bm_ 11 415) rfl rfl (any_of HT_.out Y0) (fun _ _ _ h=>h) F0 ?_ ?_ ?_ ?_
  rotate_left
  ·intro w'
   go_simp
   with_reducible rfl
  rotate_left
  ·simp only[Act.put,kss,i64_w,i32_w]
   rfl
  refine pu_ 5 22 ?_ (bm_ 11 447) rfl rfl (any_of HT_.out Y0) (fun _ _ _ h=>h) F0 ?_ ?_ ?_ ?_
  rotate_left
  ·intro w'
   go_simp
   with_reducible rfl
  rotate_left
  ·simp only[Act.put,kss,i64_w,i32_w]
   rfl
  refine pu_ 6 23 ?_ (bm_ 11 511) rfl rfl (any_of HT_.out Y0) (fun _ _ _ h=>h) F0 ?_ ?_ ?_ ?_
  rotate_left
  ·intro w'
   go_simp
   with_reducible rfl
  rotate_left
  ·simp only[Act.put,kss,i64_w,i32_w]
   rfl
  exact knq (J39 (.slice P78 x25.length c79,v34,v35,g36,g37) _ K)
 refine join_ (σ:=Value×Value×Value×Nat×Nat) 7 (bm_ 11 389) (fun s=>[(8,.pointer (some ⟨s.2.2.2.1,0,none⟩)),(9,.pointer (some ⟨s.2.2.2.2,0,none⟩))]) (fun s W=>Kp w (Bs++[(s.2.2.2.1,#[.slice none 0 0,.bool false],90),(s.2.2.2.2,#[.slice none 0 0,.bool false],90)]) (Vs++[]) (Os++[]) W) ?_ (fun J43=>?_)
 ·rintro⟨v33,v34,v35,g36,g37⟩ W K
  try dsimp only at K
  have hH:=HS.out _ _ _ _ K
  refine norm_ (a':=?_) ?_ ?_
  rotate_left
  ·try simp only[putAll,Act.put,kss]
   rfl
  refine one_ (i:=1) (N:=some 19) (bm_ 11 391) rfl rfl (one_of HT_.out Y0) X0 (fun Kc hK=>?_)
  refine kgo Tryz.func51 #[.agg #[.bool ab,.slice ae aa.length af]] F0 rfl rfl ?_
  refine(whole_of.calls _ ab _ _ _ aa x25 z26 _ (K.V 0 (hv hVs rfl)) A27.out).mono ?_
  rintro e W' ⟨v33,rfl,aF,hb⟩
  replace K:=K.addI 0 (fun _=>True) hb aF (fun _ h=>h.t)
  clear hb aF
  refine⟨_,rfl,hK.out _ _ (HS.out _ _ _ _ K) fun hH=>?_⟩
  exact knq (J42 (v33,v34,v35,g36,g37) _ K)
 refine join_ (σ:=Value×Value×Value×Nat×Nat) 7 (bm_ 11 263) (fun s=>[(19,.agg #[s.1,.bool z26]),(9,.pointer (some ⟨s.2.2.2.2,0,none⟩))]) (fun s W=>Kp w (Bs++[(s.2.2.2.2,#[.slice none 0 0,.bool false],90)]) (Vs++[⟨Kd.int .u64,48,s.1,x25,fun _=>True⟩]) (Os++[]) W) ?_ (fun J44=>?_)
 ·rintro⟨v33,v34,v35,g36,g37⟩ W K
  try dsimp only at K
  have hH:=HS.out _ _ _ _ K
  refine norm_ (a':=?_) ?_ ?_
  rotate_left
  ·try simp only[putAll,Act.put,kss]
   rfl
  refine two_ (i:=3) (j:=7) (Ni:=some 21) (Nj:=some 8) (bm_ 11 271) (bm_ 11 391) rfl rfl rfl rfl (two_of HT_.out Y0) X0 X0 (fun Kc hK=>?_) (fun Kc hK=>?_)
  ·obtain⟨P84,c85,e86⟩:=K.slice 3 (hv hVs rfl)
   subst e86
   refine kgo Tryz.func142 #[.agg #[.slice P84 x25.length c85,.bool z26],.agg #[.slice P15 x9.length c16,.bool z10]] F0 rfl rfl ?_
   refine(whole_number_cut.calls _ _ _ _ x25 z26 _ _ x9 z10 x28 z29 x30 z31 _ (K.V 3 (hv hVs rfl)) (K.C 2 (hv hVs rfl)) (K.le 2 (hv hVs rfl)) A32.out).mono ?_
   rintro e W' ⟨v34,v35,rfl,aG,ah,hb⟩
   have K1:=K.addI 1 (fun _=>True) hb aG (fun _ h=>h.t)
   replace K:=K.moreI 2 (fun _=>True) K1 ah (fun _ h=>h.t)
   clear K1
   clear hb aG ah
   refine⟨_,rfl,hK.out _ _ (HS.out _ _ _ _ K) fun hH=>?_⟩
   refine norm_ (a':=?_) ?_ ?_
   rotate_left
   ·show Act.put _ (some 21) _=_
    simp only[Act.put,kss,i64_w,i32_w]
    rfl
   refine pu_ 4 17 ?_ (bm_ 11 287) rfl rfl (any_of HT_.out Y0) (fun _ _ _ h=>h) F0 ?_ ?_ ?_ ?_
   rotate_left
   ·intro w'
    go_simp
    with_reducible rfl
   rotate_left
   ·simp only[Act.put,kss,i64_w,i32_w]
    rfl
   refine pu_ 5 22 ?_ (bm_ 11 319) rfl rfl (any_of HT_.out Y0) (fun _ _ _ h=>h) F0 ?_ ?_ ?_ ?_
   rotate_left
   ·intro w'
    go_simp
    with_reducible rfl
   rotate_left
   ·simp only[Act.put,kss,i64_w,i32_w]
    rfl
   refine pu_ 6 23 ?_ (bm_ 11 383) rfl rfl (any_of HT_.out Y0) (fun _ _ _ h=>h) F0 ?_ ?_ ?_ ?_
   rotate_left
   ·intro w'
    go_simp
    with_reducible rfl
   rotate_left
   ·simp only[Act.put,kss,i64_w,i32_w]
    rfl
   exact knq (J40 (.slice P84 x25.length c85,v34,v35,g36,g37) _ K)
  exact kbx #[.slice none 0 0,.bool false] 90 8 fun g36 hg W' hx hb=>hK.out _ _ (HS.out _ _ _ _ (K.boxI 0 (lb rfl) hg hx hb)) fun _=>knq (J42 (v33,v34,v35,g36,g37) _ (K.boxI 0 (lb rfl) hg hx hb))
 refine join_ (σ:=Value×Value×Value×Nat×Nat) 7 (bm_ 11 135) (fun s=>[(19,.agg #[s.1,.bool z26]),(8,.pointer (some ⟨s.2.2.2.1,0,none⟩))]) (fun s W=>Kp w (Bs++[(s.2.2.2.1,#[.slice none 0 0,.bool false],90)]) (Vs++[⟨Kd.int .u64,48,s.1,x25,fun _=>True⟩]) (Os++[]) W) ?_ (fun J45=>?_)
 ·rintro⟨v33,v34,v35,g36,g37⟩ W K
  try dsimp only at K
  have hH:=HS.out _ _ _ _ K
  refine norm_ (a':=?_) ?_ ?_
  rotate_left
  ·try simp only[putAll,Act.put,kss]
   rfl
  refine two_ (i:=3) (j:=8) (Ni:=some 21) (Nj:=some 9) (bm_ 11 143) (bm_ 11 391) rfl rfl rfl rfl (two_of HT_.out Y0) X0 X0 (fun Kc hK=>?_) (fun Kc hK=>?_)
  ·obtain⟨P89,c90,e91⟩:=K.slice 3 (hv hVs rfl)
   subst e91
   refine kgo Tryz.func142 #[.agg #[.slice P89 x25.length c90,.bool z26],.agg #[.slice P15 x9.length c16,.bool z10]] F0 rfl rfl ?_
   refine(whole_number_cut.calls _ _ _ _ x25 z26 _ _ x9 z10 x28 z29 x30 z31 _ (K.V 3 (hv hVs rfl)) (K.C 2 (hv hVs rfl)) (K.le 2 (hv hVs rfl)) A32.out).mono ?_
   rintro e W' ⟨v34,v35,rfl,aH,aI,hb⟩
   have K1:=K.addI 1 (fun _=>True) hb aH (fun _ h=>h.t)
   replace K:=K.moreI 2 (fun _=>True) K1 aI (fun _ h=>h.t)
   clear K1
   clear hb aH aI
   refine⟨_,rfl,hK.out _ _ (HS.out _ _ _ _ K) fun hH=>?_⟩
   refine norm_ (a':=?_) ?_ ?_
   rotate_left
   ·show Act.put _ (some 21) _=_
    simp only[Act.put,kss,i64_w,i32_w]
    rfl
   refine pu_ 4 17 ?_ (bm_ 11 159) rfl rfl (any_of HT_.out Y0) (fun _ _ _ h=>h) F0 ?_ ?_ ?_ ?_
   rotate_left
   ·intro w'
    go_simp
    with_reducible rfl
   rotate_left
   ·simp only[Act.put,kss,i64_w,i32_w]
    rfl
   refine pu_ 5 22 ?_ (bm_ 11 191) rfl rfl (any_of HT_.out Y0) (fun _ _ _ h=>h) F0 ?_ ?_ ?_ ?_
   rotate_left
   ·intro w'
    go_simp
    with_reducible rfl
   rotate_left
   ·simp only[Act.put,kss,i64_w,i32_w]
    rfl
   refine pu_ 6 23 ?_ (bm_ 11 255) rfl rfl (any_of HT_.out Y0) (fun _ _ _ h=>h) F0 ?_ ?_ ?_ ?_
   rotate_left
   ·intro w'
    go_simp
    with_reducible rfl
   rotate_left
   ·simp only[Act.put,kss,i64_w,i32_w]
    rfl
   exact knq (J41 (.slice P89 x25.length c90,v34,v35,g36,g37) _ K)
  exact kbx #[.slice none 0 0,.bool false] 90 9 fun g37 hg W' hx hb=>hK.out _ _ (HS.out _ _ _ _ (K.boxI 1 (lb rfl) hg hx hb)) fun _=>knq (J42 (v33,v34,v35,g36,g37) _ (K.boxI 1 (lb rfl) hg hx hb))
 obtain⟨v33,v34,v35,g36,g37⟩:Value×Value×Value×Nat×Nat:=((.bool false),(.bool false),(.bool false),0,0)
 refine three_ (i:=1) (j:=7) (k:=8) (Ni:=some 19) (Nj:=some 8) (Nk:=some 9) (bm_ 11 7) (bm_ 11 133) (bm_ 11 261) rfl rfl rfl rfl rfl rfl (three_of HT_.out Y0) X0 X0 X0 (fun Kc hK=>?_) (fun Kc hK=>?_) (fun Kc hK=>?_)
 ·refine kgo Tryz.func51 #[.agg #[.bool ab,.slice ae aa.length af]] F0 rfl rfl ?_
  refine(whole_of.calls _ ab _ _ _ aa x25 z26 _ (K.V 0 (hv hVs rfl)) A27.out).mono ?_
  rintro e W' ⟨v33,rfl,aJ,hb⟩
  replace K:=K.addI 0 (fun _=>True) hb aJ (fun _ h=>h.t)
  clear hb aJ
  refine⟨_,rfl,hK.out _ _ (HS.out _ _ _ _ K) fun hH=>?_⟩
  clear hK Kc
  refine norm_ (a':=?_) ?_ ?_
  rotate_left
  ·show Act.put _ (some 19) _=_
   simp only[Act.put,kss,i64_w,i32_w]
   rfl
  refine three_ (i:=3) (j:=7) (k:=8) (Ni:=some 21) (Nj:=some 8) (Nk:=some 9) (bm_ 11 15) (bm_ 11 135) (bm_ 11 263) rfl rfl rfl rfl rfl rfl (three_of HT_.out Y0) X0 X0 X0 (fun Kc hK=>?_) (fun Kc hK=>?_) (fun Kc hK=>?_)
  ·obtain⟨P95,c96,e97⟩:=K.slice 3 (hv hVs rfl)
   subst e97
   refine kgo Tryz.func142 #[.agg #[.slice P95 x25.length c96,.bool z26],.agg #[.slice P15 x9.length c16,.bool z10]] F0 rfl rfl ?_
   refine(whole_number_cut.calls _ _ _ _ x25 z26 _ _ x9 z10 x28 z29 x30 z31 _ (K.V 3 (hv hVs rfl)) (K.C 2 (hv hVs rfl)) (K.le 2 (hv hVs rfl)) A32.out).mono ?_
   rintro e W' ⟨v34,v35,rfl,aK,aL,hb⟩
   have K1:=K.addI 1 (fun _=>True) hb aK (fun _ h=>h.t)
   replace K:=K.moreI 2 (fun _=>True) K1 aL (fun _ h=>h.t)
   clear K1
   clear hb aK aL
   refine⟨_,rfl,hK.out _ _ (HS.out _ _ _ _ K) fun hH=>?_⟩
   refine norm_ (a':=?_) ?_ ?_
   rotate_left
   ·show Act.put _ (some 21) _=_
    simp only[Act.put,kss,i64_w,i32_w]
    rfl
   refine pu_ 4 17 ?_ (bm_ 11 31) rfl rfl (any_of HT_.out Y0) (fun _ _ _ h=>h) F0 ?_ ?_ ?_ ?_
   rotate_left
   ·intro w'
    go_simp
    with_reducible rfl
   rotate_left
   ·simp only[Act.put,kss,i64_w,i32_w]
    rfl
   refine pu_ 5 22 ?_ (bm_ 11 63) rfl rfl (any_of HT_.out Y0) (fun _ _ _ h=>h) F0 ?_ ?_ ?_ ?_
   rotate_left
   ·intro w'
    go_simp
    with_reducible rfl
   rotate_left
   ·simp only[Act.put,kss,i64_w,i32_w]
    rfl
   refine pu_ 6 23 ?_ (bm_ 11 127) rfl rfl (any_of HT_.out Y0) (fun _ _ _ h=>h) F0 ?_ ?_ ?_ ?_
   rotate_left
   ·intro w'
    go_simp
    with_reducible rfl
   rotate_left
   ·simp only[Act.put,kss,i64_w,i32_w]
    rfl
   clear hK Kc
   refine two_ (i:=7) (j:=8) (Ni:=some 8) (Nj:=some 9) (bm_ 11 255) (bm_ 11 383) rfl rfl rfl rfl (two_of HT_.out Y0) X0 X0 (fun Kc hK=>?_) (fun Kc hK=>?_)
   ·exact kbx #[.slice none 0 0,.bool false] 90 8 fun g36 hg W' hx hb=>hK.out _ _ (HS.out _ _ _ _ (K.boxI 0 (lb rfl) hg hx hb)) fun _=>knq (J41 (.slice P95 x25.length c96,v34,v35,g36,g37) _ (K.boxI 0 (lb rfl) hg hx hb))
   exact kbx #[.slice none 0 0,.bool false] 90 9 fun g37 hg W' hx hb=>hK.out _ _ (HS.out _ _ _ _ (K.boxI 0 (lb rfl) hg hx hb)) fun _=>knq (J40 (.slice P95 x25.length c96,v34,v35,g36,g37) _ (K.boxI 0 (lb rfl) hg hx hb))
  ·exact kbx #[.slice none 0 0,.bool false] 90 8 fun g36 hg W' hx hb=>hK.out _ _ (HS.out _ _ _ _ (K.boxI 0 (lb rfl) hg hx hb)) fun _=>knq (J45 (v33,v34,v35,g36,g37) _ (K.boxI 0 (lb rfl) hg hx hb))
  exact kbx #[.slice none 0 0,.bool false] 90 9 fun g37 hg W' hx hb=>hK.out _ _ (HS.out _ _ _ _ (K.boxI 0 (lb rfl) hg hx hb)) fun _=>knq (J44 (v33,v34,v35,g36,g37) _ (K.boxI 0 (lb rfl) hg hx hb))
 ·refine kbx #[.slice none 0 0,.bool false] 90 8 fun g36 hg W' hx hb=>?_
  replace K:=K.boxI 0 (lb rfl) hg hx hb
  clear hg hx hb
  refine hK.out _ _ (HS.out _ _ _ _ K) fun hH=>?_
  clear hK Kc
  refine norm_ (a':=?_) ?_ ?_
  rotate_left
  ·show Act.put _ (some 8) _=_
   simp only[Act.put,kss,i64_w,i32_w]
   rfl
  refine two_ (i:=1) (j:=8) (Ni:=some 19) (Nj:=some 9) (bm_ 11 135) (bm_ 11 389) rfl rfl rfl rfl (two_of HT_.out Y0) X0 X0 (fun Kc hK=>?_) (fun Kc hK=>?_)
  ·refine kgo Tryz.func51 #[.agg #[.bool ab,.slice ae aa.length af]] F0 rfl rfl ?_
   refine(whole_of.calls _ ab _ _ _ aa x25 z26 _ (K.V 0 (hv hVs rfl)) A27.out).mono ?_
   rintro e W' ⟨v33,rfl,aA,hb⟩
   replace K:=K.addI 0 (fun _=>True) hb aA (fun _ h=>h.t)
   clear hb aA
   refine⟨_,rfl,hK.out _ _ (HS.out _ _ _ _ K) fun hH=>?_⟩
   exact knq (J45 (v33,v34,v35,g36,g37) _ K)
  exact kbx #[.slice none 0 0,.bool false] 90 9 fun g37 hg W' hx hb=>hK.out _ _ (HS.out _ _ _ _ (K.boxI 1 (lb rfl) hg hx hb)) fun _=>knq (J43 (v33,v34,v35,g36,g37) _ (K.boxI 1 (lb rfl) hg hx hb))
 refine kbx #[.slice none 0 0,.bool false] 90 9 fun g37 hg W' hx hb=>?_
 replace K:=K.boxI 0 (lb rfl) hg hx hb
 clear hg hx hb
 refine hK.out _ _ (HS.out _ _ _ _ K) fun hH=>?_
 clear hK Kc
 refine norm_ (a':=?_) ?_ ?_
 rotate_left
 ·show Act.put _ (some 9) _=_
  simp only[Act.put,kss,i64_w,i32_w]
  rfl
 refine two_ (i:=1) (j:=7) (Ni:=some 19) (Nj:=some 8) (bm_ 11 263) (bm_ 11 389) rfl rfl rfl rfl (two_of HT_.out Y0) X0 X0 (fun Kc hK=>?_) (fun Kc hK=>?_)
 ·refine kgo Tryz.func51 #[.agg #[.bool ab,.slice ae aa.length af]] F0 rfl rfl ?_
  refine(whole_of.calls _ ab _ _ _ aa x25 z26 _ (K.V 0 (hv hVs rfl)) A27.out).mono ?_
  rintro e W' ⟨v33,rfl,ad,hb⟩
  replace K:=K.addI 0 (fun _=>True) hb ad (fun _ h=>h.t)
  clear hb ad
  refine⟨_,rfl,hK.out _ _ (HS.out _ _ _ _ K) fun hH=>?_⟩
  exact knq (J44 (v33,v34,v35,g36,g37) _ K)
 exact kbx #[.slice none 0 0,.bool false] 90 8 fun g36 hg W' hx hb=>hK.out _ _ (HS.out _ _ _ _ (K.boxI 0 (lb rfl) hg hx hb)) fun _=>knq (J43 (v33,v34,v35,g36,g37) _ (K.boxI 0 (lb rfl) hg hx hb))
theorem cut_to3 {P:Program} (t e:TypeId) (kh km:IntKind) {i:TypeInfo} (ht:P.underlying t=some (.slice e)) (hi:P.info? e=some i) (A:Option Addr) (n c:Nat) (j:Int) (h0:0≤j) (hm:j≤n) (hc:n≤c) :
  ∀W:World,(Instr.slice t (.slice A n c) none (some (.int kh j)) (some (.int km j))).run P W=.ok (.slice A j.toNat j.toNat) W:=by
 intro W
 have hel:P.elem t=e:=by simp[Program.elem,ht]
 have hu:P.underlying t=some (.slice (P.elem t)):=by rw[hel];exact ht
 have ha:(A.map fun x=>x.add 0)=A:=by cases A<;>simp[Addr.add]
 rw[run_slice_hm W t A n c hu kh km j j h0 Z0 Z0,hel]
 simp[sizeOf,typeInfo,hi,sliced,Result.andThen,ha]
def nat_trim.l0:Nat→List Int→Int→Option (List Int)
 | 0,_,_=>none
 | k+1,x0,x3=>if x3>0 then(if 0≤(wrap64 (x3-1)) then(if(wrap64 (x3-1))<(x0.length:Int) then(if(rd x0 (wrap64 (x3-1)))=0 then(nat_trim.l0 k x0 (wrap64 (x3-1))) else(if 0≤x3 then(if x3≤(x0.length:Int) then(some (x0.take (x3:Int).toNat)) else(none)) else(none))) else(none)) else(none)) else(if 0≤x3 then(if x3≤(x0.length:Int) then(some (x0.take (x3:Int).toNat)) else(none)) else(none))
def nat_trim.f (k:Nat) (l0:List Int):Option (List Int):=nat_trim.l0 k l0 (l0.length:Int)
theorem nat_trim.mono_l:∀k,(∀y0 y1,LeO (nat_trim.l0 k y0 y1) (nat_trim.l0 (k+1) y0 y1))
 | 0=>fun _ _ r h=>by simp[nat_trim.l0]at h
 | k+1=>by
  have ih0:=nat_trim.mono_l k
  intro y0 y1
  unfold nat_trim.l0
  repeat' first
  | (with_reducible exact ih0 _ _)
  | (with_reducible exact LeO.refl _)
  | (with_reducible exact LeO.none _)
  | (with_reducible refine LeO.ite ?_ ?_)
  | (with_reducible refine LeO.bind ?_ (fun _=>?_))
  | exact ih0 _ _
  | exact LeO.none _
  | refine LeO.ite ?_ ?_
  | refine LeO.bind ?_ (fun _=>?_)
theorem nat_trim.mono:∀a0 k,LeO (nat_trim.f k a0) (nat_trim.f (k+1) a0):=by
 intro a0 k
 have ih0:=nat_trim.mono_l k
 unfold nat_trim.f
 repeat' first
   | (with_reducible exact ih0 _ _)
   | (with_reducible exact LeO.refl _)
   | (with_reducible exact LeO.none _)
   | (with_reducible refine LeO.ite ?_ ?_)
   | (with_reducible refine LeO.bind ?_ (fun _=>?_))
   | exact ih0 _ _
   | exact LeO.none _
   | refine LeO.ite ?_ ?_
   | refine LeO.bind ?_ (fun _=>?_)
theorem nat_trim.calls (k:Nat) (P0_:Nat→Prop) (A0:Option Addr) (c0:Nat) (l0:List Int) (r:List Int) (w:World) (hs0:Kd.V (Kd.int .u64) 48 w w.heap.size (fun k_=>P0_ k_) (.slice A0 l0.length c0) l0) (h:nat_trim.f k l0=some r) :
  Calls Tryz.prog 96 #[.slice A0 l0.length c0] w fun e w'=>∃v0_:Value,e=.returned (v0_)∧Kd.V (Kd.int .u64) 48 w' w.heap.size (fun k_=>(P0_ k_∨w.heap.size≤k_)) v0_ r∧Below w.heap.size w w':=by
 have HO0:=Aside0.mk (show Kd.V (Kd.int .u64) 48 w w.heap.size (fun k_=>(P0_ k_∨w.heap.size≤k_)) (.slice A0 l0.length c0) l0 from Kd.V_mono hs0 (fun k_ hk=>.inl hk))
 have HB:=Aside0.mk (Below.refl w.heap.size w)
 have H:(nat_trim.l0 k l0 (l0.length:Int))=some r:=h
 clear h
 have H':=Aside0.mk H
 clear H
 go_enter Tryz.func96,Tryz.ntmps96
 go_wp2
 go_loopg [3] k (fun kq v3 w'=>∃(aa:Int),v3=.int .i64 aa∧Aside0 (nat_trim.l0 kq l0 aa=some r)∧Aside0 (kq≤k)∧Aside0 (Kd.V (Kd.int .u64) 48 w' w.heap.size (fun k_=>(P0_ k_∨w.heap.size≤k_)) (.slice A0 l0.length c0) l0)∧Aside0 (Below w.heap.size w w'))
 case atStart=>exact⟨((l0.length:Int)),J0,H',⟨Nat.le_refl _⟩,⟨by(with_reducible repeat (first|apply Kd.V_alloc|apply Kd.V_drewN|apply Kd.V_drew));exact HO0.out⟩,⟨J1⟩⟩
 case round=>
  clear H'
  obtain⟨aa,rfl,HA,HK1,ab,HB⟩:=hrel
  cases gk with
  | zero=>exact absurd HA.out (by simp[nat_trim.l0])
  | succ k1=>
   have H:=HA.out
   clear HA
   simp only[nat_trim.l0]at H
   by_cases c2:aa>0
   ·rw [if_pos c2]at H
    have aB:decide (0<aa)=true:=decide_eq_true c2
    clear c2
    obtain⟨ji3,hji3⟩:∃j_:Int,(wrap64 (aa-1))=j_:=⟨_,rfl⟩
    replace H:(if 0≤(ji3) then(if(ji3)<(l0.length:Int) then(if(rd l0 (ji3))=0 then(nat_trim.l0 k1 l0 ji3) else(if 0≤aa then(if aa≤(l0.length:Int) then(some (l0.take (aa:Int).toNat)) else(none)) else(none))) else(none)) else(none))=some r:=by first|(rw[hji3]at H;exact H)|(simp only[hji3]at H ⊢;exact H)
    have aF:(IntKind.i64.wrap (aa-1))=ji3:=(i64_w _).trans hji3
    by_cases c4:0≤(ji3)
    ·rw [if_pos c4]at H
     have aM:decide (0≤(ji3))=true:=decide_eq_true c4
     clear c4
     by_cases c5:(ji3)<(l0.length:Int)
     ·rw[if_pos c5]at H
      have aN:decide ((ji3)<(l0.length:Int))=true:=decide_eq_true c5
      clear c5
      by_cases c6:(rd l0 (ji3))=0
      ·rw[if_pos c6]at H
       have aC:((rd l0 (ji3))==0)=true:=beq_iff_eq.mpr c6
       have aD:((rd l0 (ji3)) != 0)=false:=bne_eq_false_iff_eq.mpr c6
       clear c6
       have H':=Aside0.mk H
       clear H
       have ac:0≤((ji3):Int):=of_decide_eq_true D2
       have ad:(ji3)<(l0.length:Int):=of_decide_eq_true D2
       obtain⟨ai,al,ar⟩:=Kd.at_int (Kd.V_reads' ab.out).2.2 (ji3) ac ad
       cases al
       replace ac:=eq_true ac
       replace ad:=eq_true ad
       go_wp2
       go_roundg k1
       case measure=>have:=HK1.out;omega
       case rel=>exact⟨(ji3),J4,H',⟨X2⟩,⟨by(with_reducible repeat (first|apply Kd.V_alloc|apply Kd.V_drewN|apply Kd.V_drew));exact ab.out⟩,⟨J1⟩⟩
      rw[if_neg c6]at H
      have aC:((rd l0 (ji3))==0)=false:=beq_eq_false_iff_ne.mpr c6
      have aD:((rd l0 (ji3)) != 0)=true:=bne_iff_ne.mpr c6
      by_cases c7:0≤aa
      ·rw[if_pos c7]at H
       have aO:=eq_true c7
       have aP:decide (0≤aa)=true:=decide_eq_true c7
       clear c7
       by_cases c8:aa≤(l0.length:Int)
       ·rw[if_pos c8]at H
        have aQ:=eq_true c8
        have aR:decide (aa≤(l0.length:Int))=true:=decide_eq_true c8
        clear c8
        obtain⟨ag,ae⟩:∃y_:List Int,y_=(l0.take (aa:Int).toNat):=⟨_,rfl⟩
        replace H:(some ag)=some r:=by first|(rw[ae];with_reducible exact H)|(have H2_:=(Option.bind_some _ _).symm.trans H;rw[ae];with_reducible exact H2_)|(have H2_:=(Option.bind_some _ _).symm.trans H;with_reducible exact H2_)|with_reducible exact H|(rw[ae];exact H)|exact H
        have ao:=Aside0.mk ae
        clear ae
        obtain rfl:=Option.some.inj H
        have ac:0≤((ji3):Int):=of_decide_eq_true D2
        have ad:(ji3)<(l0.length:Int):=of_decide_eq_true D2
        obtain⟨ai,al,ar⟩:=Kd.at_int (Kd.V_reads' ab.out).2.2 (ji3) ac ad
        cases al
        replace ac:=eq_true ac
        replace ad:=eq_true ad
        have q9:(aa:Int)≤((l0.length:Int):Int):=of_decide_eq_true D2
        obtain⟨i09,au,_,aE,_⟩:=info_parts info48
        have ak:l0.length≤c0:=(Kd.V_reads' ab.out).2.1
        have hC9:Kd.F (Kd.int .u64) _ _ (some ai) l0.length l0:=(Kd.V_at (base:=w.heap.size) ab.out).2.2
        have ax:=cut_to3 (P:=Tryz.prog) 26 48 .i64 .i64 Tryz.underlying26 au (some ai) l0.length c0 aa (of_decide_eq_true D2) q9 ak
        have hr9:=Kd.F_take (m:=(aa:Int).toNat) hC9 Z0
        have hy9:ag.length=(aa:Int).toNat:=(by rw[ao.out,List.length_take];omega)
        rw[←ao.out]at hr9
        rw[←hy9]at ax
        have ay:=Aside0.mk (show Kd.V (Kd.int .u64) 48 _ w.heap.size _ (.slice (some ai) ag.length ag.length) ag from Kd.V_mk Z0 hr9)
        have aG:=Aside0.mk (show ag.length≤c0 from by omega)
        clear hr9 hC9 ak au aE
        have KY9:=Aside0.mk hy9
        clear hy9
        replace q9:=eq_true q9
        go_wp2
        go_ret
        exact⟨_,Z2,by(with_reducible repeat (first|apply Kd.V_alloc|apply Kd.V_drewN|apply Kd.V_drew));exact ay.out,J1⟩
       rw[if_neg c8]at H
       exact absurd H Z1
      rw[if_neg c7]at H
      exact absurd H Z1
     rw[if_neg c5]at H
     exact absurd H Z1
    rw[if_neg c4]at H
    exact absurd H Z1
   rw[if_neg c2]at H
   have aB:decide (0<aa)=false:=decide_eq_false c2
   clear c2
   by_cases c10:0≤aa
   ·rw[if_pos c10]at H
    have aH:=eq_true c10
    have aI:decide (0≤aa)=true:=decide_eq_true c10
    clear c10
    by_cases c11:aa≤(l0.length:Int)
    ·rw[if_pos c11]at H
     have aJ:=eq_true c11
     have aK:decide (aa≤(l0.length:Int))=true:=decide_eq_true c11
     clear c11
     obtain⟨ah,af⟩:∃y_:List Int,y_=(l0.take (aa:Int).toNat):=⟨_,rfl⟩
     replace H:(some ah)=some r:=by first|(rw[af];with_reducible exact H)|(have H2_:=(Option.bind_some _ _).symm.trans H;rw[af];with_reducible exact H2_)|(have H2_:=(Option.bind_some _ _).symm.trans H;with_reducible exact H2_)|with_reducible exact H|(rw[af];exact H)|exact H
     have ap:=Aside0.mk af
     clear af
     obtain rfl:=Option.some.inj H
     have q12:(aa:Int)≤((l0.length:Int):Int):=of_decide_eq_true D2
     obtain⟨i012,aq,_,az,_⟩:=info_parts info48
     have aj:l0.length≤c0:=(Kd.V_reads' ab.out).2.1
     have av:Kd.F (Kd.int .u64) _ _ A0 l0.length l0:=(Kd.V_at (base:=w.heap.size) ab.out).2.2
     have aw:=cut_to3 (P:=Tryz.prog) 26 48 .i64 .i64 Tryz.underlying26 aq A0 l0.length c0 aa (of_decide_eq_true D2) q12 aj
     have am:=Kd.F_take (m:=(aa:Int).toNat) av Z0
     have an:ah.length=(aa:Int).toNat:=(by rw[ap.out,List.length_take];omega)
     rw[←ap.out]at am
     rw[←an]at aw
     have aA:=Aside0.mk (show Kd.V (Kd.int .u64) 48 _ w.heap.size _ (.slice A0 ah.length ah.length) ah from Kd.V_mk Z0 am)
     have aL:=Aside0.mk (show ah.length≤c0 from by omega)
     clear am av aj aq az
     have aS:=Aside0.mk an
     clear an
     replace q12:=eq_true q12
     go_wp2
     go_ret
     exact⟨_,Y2,by(with_reducible repeat (first|apply Kd.V_alloc|apply Kd.V_drewN|apply Kd.V_drew));exact aA.out,J1⟩
    rw[if_neg c11]at H
    exact absurd H Z1
   rw[if_neg c10]at H
   exact absurd H Z1
def nat_long.l0:Nat→List (List Int)→Int→Int→Option (Bool)
 | 0,_,_,_=>none
 | k+1,x5,x6,x7=>if x7<x6 then(if 0≤x7 then(if x7<(x5.length:Int) then((nat_trim.f k (rd_L1 x5 x7)).bind fun t670=>(if(t670.length:Int)>4096 then(some true) else(nat_long.l0 k x5 x6 (wrap64 (x7+1))))) else(none)) else(none)) else(some false)
def nat_long.f (k:Nat) (l0:List (List Int)):Option (Bool):=nat_long.l0 k l0 (l0.length:Int) 0
theorem nat_long.mono_l:∀k,(∀y0 y1 y2,LeO (nat_long.l0 k y0 y1 y2) (nat_long.l0 (k+1) y0 y1 y2))
 | 0=>fun _ _ _ r h=>by simp[nat_long.l0]at h
 | k+1=>by
  have ih0:=nat_long.mono_l k
  intro y0 y1 y2
  unfold nat_long.l0
  repeat' first
  | (with_reducible exact ih0 _ _ _)
  | (with_reducible exact nat_trim.mono _ _)
  | (with_reducible exact LeO.refl _)
  | (with_reducible exact LeO.none _)
  | (with_reducible refine LeO.ite ?_ ?_)
  | (with_reducible refine LeO.bind ?_ (fun _=>?_))
  | exact ih0 _ _ _
  | exact nat_trim.mono _ _
  | exact LeO.none _
  | refine LeO.ite ?_ ?_
  | refine LeO.bind ?_ (fun _=>?_)
theorem nat_long.mono:∀a0 k,LeO (nat_long.f k a0) (nat_long.f (k+1) a0):=by
 intro a0 k
 have ih0:=nat_long.mono_l k
 unfold nat_long.f
 repeat' first
   | (with_reducible exact ih0 _ _ _)
   | (with_reducible exact nat_trim.mono _ _)
   | (with_reducible exact LeO.refl _)
   | (with_reducible exact LeO.none _)
   | (with_reducible refine LeO.ite ?_ ?_)
   | (with_reducible refine LeO.bind ?_ (fun _=>?_))
   | exact ih0 _ _ _
   | exact nat_trim.mono _ _
   | exact LeO.none _
   | refine LeO.ite ?_ ?_
   | refine LeO.bind ?_ (fun _=>?_)
theorem nat_long.calls (k:Nat) (A0:Option Addr) (c0:Nat) (l0:List (List Int)) (r:Bool) (w:World) (hr0:Kd.C (Kd.slice 48 (Kd.int .u64)) w A0 l0.length l0) (hc0:l0.length≤c0) (h:nat_long.f k l0=some r) :
  Calls Tryz.prog 164 #[.slice A0 l0.length c0] w fun e w'=>e=.returned (.bool r)∧Below w.heap.size w w':=by
 have HR0:=Aside0.mk hr0
 have HC0:=Aside0.mk hc0
 clear hr0 hc0
 have HB:=Aside0.mk (Below.refl w.heap.size w)
 have H:(nat_long.l0 k l0 (l0.length:Int) 0)=some r:=h
 clear h
 have H':=Aside0.mk H
 clear H
 go_enter Tryz.func164,Tryz.ntmps164
 go_wp2
 go_loopg [7] k (fun kq v7 w'=>∃(aa:Int),v7=.int .i64 aa∧Aside0 (nat_long.l0 kq l0 (l0.length:Int) aa=some r)∧Aside0 (kq≤k)∧Aside0 (Below w.heap.size w w'))
 case atStart=>exact⟨(0),J0,H',⟨Nat.le_refl _⟩,⟨khu HB.out⟩⟩
 case round=>
  clear H'
  try clear c1
  obtain⟨aa,rfl,HA,HK1,HB⟩:=hrel
  cases gk with
  | zero=>exact absurd HA.out (by simp[nat_long.l0])
  | succ k1=>
   have H:=HA.out
   clear HA
   simp only[nat_long.l0]at H
   by_cases c2:aa<(l0.length:Int)
   ·rw [if_pos c2]at H
    have ao:decide (aa<(l0.length:Int))=true:=decide_eq_true c2
    clear c2
    by_cases c3:0≤aa
    ·rw[if_pos c3]at H
     have av:decide (0≤aa)=true:=decide_eq_true c3
     clear c3
     by_cases c4:aa<(l0.length:Int)
     ·rw[if_pos c4]at H
      have aw:decide (aa<(l0.length:Int))=true:=decide_eq_true c4
      clear c4
      replace H:=Option.bind_eq_some_iff.mp H
      obtain⟨ae,A50,H⟩:=H
      replace H:(if(ae.length:Int)>4096 then(some true) else(nat_long.l0 k1 l0 (l0.length:Int) (wrap64 (aa+1))))=some r:=H
      have A5:=Aside0.mk A50
      clear A50
      by_cases c6:(ae.length:Int)>4096
      ·rw[if_pos c6]at H
       have ap:decide (4096<(ae.length:Int))=true:=decide_eq_true c6
       have aq:decide (4096<ae.length)=true:=decide_eq_true Z0
       clear c6
       obtain rfl:=Option.some.inj H
       have af:0≤(aa:Int):=of_decide_eq_true ‹_›
       have ag:aa<(l0.length:Int):=of_decide_eq_true ‹_›
       obtain⟨an,aj,ak,am,ab,ac,ad⟩:=at_L1 HR0.out aa af ag
       cases am
       replace ab:=(HB.out.cell (World.block_lt_of_cell? w _ ab)).trans ab
       have ah:=Aside0.mk ad
       have ai:=Aside0.mk ac
       clear ad ac
       replace af:=eq_true af
       replace ag:=eq_true ag
       go_wp2_with (first|((with_reducible refine gate_callee (f:=96) rfl ?_);refine kgl (some 12) rfl rfl Tryz.func96 #[.slice aj (rd_L1 l0 aa).length ak] rfl ?_;(with_reducible refine(nat_trim.calls k1 (fun k_=>k_<w.heap.size) _ _ (rd_L1 l0 aa) ae _ ?side1 A5.out).mono ?_);(case side1=>exact Kd.V_mk ai.out (Kd.F_below (Kd.C_F (Kd.heap_int .u64) ah.out) (khu HB.out)));rintro e w7 ⟨ar,rfl,ho0,hb⟩;refine⟨_,rfl,?_⟩;have al:=Aside0.mk (Kd.V_lower (Kd.V_mono (ok':=fun k_=>True) ho0 (fun k_ hk_=>trivial)) (below_size (khu HB.out)));replace HB:=kbs HB hb;(try clear hb);(try clear hb2);(try clear hk);(try clear hi);(try clear ho0);obtain⟨Ao8,co8,eo8⟩:=Kd.V_slice al.out;subst eo8))
       go_ret
       exact⟨D0,khu HB.out⟩
      rw[if_neg c6]at H
      have ap:decide (4096<(ae.length:Int))=false:=decide_eq_false c6
      have aq:decide (4096<ae.length)=false:=decide_eq_false Z0
      clear c6
      have H':=Aside0.mk H
      clear H
      have af:0≤(aa:Int):=of_decide_eq_true ‹_›
      have ag:aa<(l0.length:Int):=of_decide_eq_true ‹_›
      obtain⟨an,aj,ak,am,ab,ac,ad⟩:=at_L1 HR0.out aa af ag
      cases am
      replace ab:=(HB.out.cell (World.block_lt_of_cell? w _ ab)).trans ab
      have ah:=Aside0.mk ad
      have ai:=Aside0.mk ac
      clear ad ac
      replace af:=eq_true af
      replace ag:=eq_true ag
      go_wp2_with (first|((with_reducible refine gate_callee (f:=96) rfl ?_);refine kgl (some 12) rfl rfl Tryz.func96 #[.slice aj (rd_L1 l0 aa).length ak] rfl ?_;(with_reducible refine(nat_trim.calls k1 (fun k_=>k_<w.heap.size) _ _ (rd_L1 l0 aa) ae _ ?side1 A5.out).mono ?_);(case side1=>exact Kd.V_mk ai.out (Kd.F_below (Kd.C_F (Kd.heap_int .u64) ah.out) (khu HB.out)));rintro e w9 ⟨ar,rfl,ho0,hb⟩;refine⟨_,rfl,?_⟩;have al:=Aside0.mk (Kd.V_lower (Kd.V_mono (ok':=fun k_=>True) ho0 (fun k_ hk_=>trivial)) (below_size (khu HB.out)));replace HB:=kbs HB hb;(try clear hb);(try clear hb2);(try clear hk);(try clear hi);(try clear ho0);obtain⟨ax,ay,au⟩:=Kd.V_slice al.out;subst au))
      go_roundg k1
      case measure=>have:=HK1.out;omega
      case rel=>exact⟨(wrap64 (aa+1)),J0,H',⟨X2⟩,⟨khu HB.out⟩⟩
     rw[if_neg c4]at H
     exact absurd H Z1
    rw[if_neg c3]at H
    exact absurd H Z1
   rw[if_neg c2]at H
   have ao:decide (aa<(l0.length:Int))=false:=decide_eq_false c2
   clear c2
   obtain rfl:=Option.some.inj H
   go_wp2
   go_ret
   exact⟨D0,khu HB.out⟩
def nat_own.f (k:Nat) (l0:List Int):Option (List Int):=(nat_trim.f k l0).bind fun t673=>(if(t673.length:Int)=0 then(some ([]:List Int)) else((api_Nat_uint64.f t673).bind fun t676=>(some t676)))
theorem nat_own.mono:∀a0 k,LeO (nat_own.f k a0) (nat_own.f (k+1) a0):=by
 intro a0 k
 unfold nat_own.f
 repeat' first
   | (with_reducible exact nat_trim.mono _ _)
   | (with_reducible exact LeO.refl _)
   | (with_reducible exact LeO.none _)
   | (with_reducible refine LeO.ite ?_ ?_)
   | (with_reducible refine LeO.bind ?_ (fun _=>?_))
   | exact nat_trim.mono _ _
   | exact LeO.none _
   | refine LeO.ite ?_ ?_
   | refine LeO.bind ?_ (fun _=>?_)
theorem nat_own.calls (k:Nat) (A0:Option Addr) (c0:Nat) (l0:List Int) (r:List Int) (w:World) (hr0:Kd.C (Kd.int .u64) w A0 l0.length l0) (hc0:l0.length≤c0) (h:nat_own.f k l0=some r) :
  Calls Tryz.prog 179 #[.slice A0 l0.length c0] w fun e w'=>∃v0_:Value,e=.returned (v0_)∧Kd.R (Kd.int .u64) 48 w' w.heap.size (fun _=>True) v0_ r∧Below w.heap.size w w':=by
 have HR0:=Aside0.mk hr0
 have HC0:=Aside0.mk hc0
 clear hr0 hc0
 have HB:=Aside0.mk (Below.refl w.heap.size w)
 have H:((nat_trim.f k l0).bind fun aa=>(if(aa.length:Int)=0 then(some ([]:List Int)) else((api_Nat_uint64.f aa).bind fun ac=>(some ac))))=some r:=h
 clear h
 replace H:=Option.bind_eq_some_iff.mp H
 obtain⟨aa,A20,H⟩:=H
 replace H:(if(aa.length:Int)=0 then(some ([]:List Int)) else((api_Nat_uint64.f aa).bind fun ac=>(some ac)))=some r:=H
 have A2:=Aside0.mk A20
 clear A20
 by_cases c3:(aa.length:Int)=0
 ·rw[if_pos c3]at H
  have ae:((aa.length:Int)==0)=true:=beq_iff_eq.mpr c3
  have af:((aa.length:Int) != 0)=false:=bne_eq_false_iff_eq.mpr c3
  clear c3
  obtain rfl:=Option.some.inj H
  go_enter Tryz.func179,Tryz.ntmps179
  go_wp2_with (first|((with_reducible refine gate_callee (f:=96) rfl ?_);refine kgl (some 4) rfl rfl Tryz.func96 #[.slice A0 l0.length c0] rfl ?_;(with_reducible refine(nat_trim.calls k (fun k_=>k_<w.heap.size) _ _ l0 aa _ ?side1 A2.out).mono ?_);(case side1=>exact Kd.V_mk HC0.out (Kd.F_below (Kd.C_F (Kd.heap_int .u64) HR0.out) (khu HB.out)));rintro e w4 ⟨ag,rfl,ho0,hb⟩;refine⟨_,rfl,?_⟩;have ab:=Aside0.mk (Kd.V_lower (Kd.V_mono (ok':=fun k_=>True) ho0 (fun k_ hk_=>trivial)) (below_size (khu HB.out)));replace HB:=kbs HB hb;(try clear hb);(try clear hb2);(try clear hk);(try clear hi);(try clear ho0);obtain⟨Ao5,co5,eo5⟩:=Kd.V_slice ab.out;subst eo5))
  go_ret
  exact⟨_,D0,F1,khu HB.out⟩
 rw[if_neg c3]at H
 have ae:((aa.length:Int)==0)=false:=beq_eq_false_iff_ne.mpr c3
 have af:((aa.length:Int) != 0)=true:=bne_iff_ne.mpr c3
 have ah:¬(aa=[]):=fun h_=>c3 (by rw[h_];rfl)
 replace H:=Option.bind_eq_some_iff.mp H
 obtain⟨ac,A60,H⟩:=H
 replace H:(some ac)=some r:=H
 have A6:=Aside0.mk A60
 clear A60
 obtain rfl:=Option.some.inj H
 go_enter Tryz.func179,Tryz.ntmps179
 go_wp2_with (first|((with_reducible refine gate_callee (f:=96) rfl ?_);refine kgl (some 4) rfl rfl Tryz.func96 #[.slice A0 l0.length c0] rfl ?_;(with_reducible refine(nat_trim.calls k (fun k_=>k_<w.heap.size) _ _ l0 aa _ ?side1 A2.out).mono ?_);(case side1=>exact Kd.V_mk HC0.out (Kd.F_below (Kd.C_F (Kd.heap_int .u64) HR0.out) (khu HB.out)));rintro e w7 ⟨ag,rfl,ho0,hb⟩;refine⟨_,rfl,?_⟩;have ab:=Aside0.mk (Kd.V_lower (Kd.V_mono (ok':=fun k_=>True) ho0 (fun k_ hk_=>trivial)) (below_size (khu HB.out)));replace HB:=kbs HB hb;(try clear hb);(try clear hb2);(try clear hk);(try clear hi);(try clear ho0);obtain⟨Ao8,co8,eo8⟩:=Kd.V_slice ab.out;subst eo8)|((with_reducible refine gate_callee (f:=91) rfl ?_);refine kgl (some 9) rfl rfl Tryz.func91 #[.slice Ao8 aa.length co8] rfl ?_;(with_reducible refine(api_Nat_uint64.calls _ _ aa ac _ ?side1 ?side2 A6.out).mono ?_);(case side1=>repeat (first|exact(Kd.V_reads' ab.out).2.2|(with_reducible refine Kd.C_alloc ?_ _)|(with_reducible refine Kd.C_drewN ?_ _)|(with_reducible refine Kd.C_drew ?_)));(case side2=>exact(Kd.V_reads' ab.out).2.1);rintro e w9 ⟨ai,rfl,ho0,hb⟩;refine⟨_,rfl,?_⟩;replace ab:=Aside0.mk (Kd.V_elder' (kvu ab.out) (Kd.R_base ho0) hb);have ad:=Aside0.mk (Kd.R_lower ho0 (below_size (khu HB.out)));replace HB:=kbs HB hb;(try clear hb);(try clear hb2);(try clear hk);(try clear hi);(try clear ho0)))
 go_ret
 exact⟨_,D0,kru ad.out,khu HB.out⟩
def nat_out.f (k:Nat) (l0:List Int):Option (List Int×Int):=(nat_long.f k (([l0]:List (List Int)))).bind fun t682=>(if t682=true then(some (([]:List Int),5)) else((nat_own.f k l0).bind fun t683=>(some (t683,0))))
theorem nat_out.mono:∀a0 k,LeO (nat_out.f k a0) (nat_out.f (k+1) a0):=by
 intro a0 k
 unfold nat_out.f
 repeat' first
   | (with_reducible exact nat_long.mono _ _)
   | (with_reducible exact nat_own.mono _ _)
   | (with_reducible exact LeO.refl _)
   | (with_reducible exact LeO.none _)
   | (with_reducible refine LeO.ite ?_ ?_)
   | (with_reducible refine LeO.bind ?_ (fun _=>?_))
   | exact nat_long.mono _ _
   | exact nat_own.mono _ _
   | exact LeO.none _
   | refine LeO.ite ?_ ?_
   | refine LeO.bind ?_ (fun _=>?_)
theorem nat_out.calls (k:Nat) (P0_:Nat→Prop) (A0:Option Addr) (c0:Nat) (l0:List Int) (r1:List Int) (r2:Int) (w:World) (hs0:Kd.V (Kd.int .u64) 48 w w.heap.size (fun k_=>P0_ k_) (.slice A0 l0.length c0) l0) (h:nat_out.f k l0=some (r1,r2)) :
  Calls Tryz.prog 165 #[.slice A0 l0.length c0] w fun e w'=>∃v0_:Value,e=.returned (.tuple #[v0_,.int .i64 r2])∧Kd.R (Kd.int .u64) 48 w' w.heap.size (fun k_=>(w.heap.size≤k_)) v0_ r1∧Below w.heap.size w w':=by
 have HO0:=Aside0.mk (show Kd.V (Kd.int .u64) 48 w w.heap.size (fun k_=>(P0_ k_∨w.heap.size≤k_)) (.slice A0 l0.length c0) l0 from Kd.V_mono hs0 (fun k_ hk=>.inl hk))
 have HB:=Aside0.mk (Below.refl w.heap.size w)
 have H:((nat_long.f k (([l0]:List (List Int)))).bind fun ac=>(if ac=true then(some (([]:List Int),5)) else((nat_own.f k l0).bind fun aa=>(some (aa,0)))))=some (r1,r2):=h
 clear h
 obtain⟨af,ab⟩:∃y_:List (List Int),y_=(([l0]:List (List Int))):=⟨_,rfl⟩
 replace H:((nat_long.f k af).bind fun ac=>(if ac=true then(some (([]:List Int),5)) else((nat_own.f k l0).bind fun aa=>(some (aa,0)))))=some (r1,r2):=by first|(rw[ab];with_reducible exact H)|(have H2_:=(Option.bind_some _ _).symm.trans H;rw[ab];with_reducible exact H2_)|(have H2_:=(Option.bind_some _ _).symm.trans H;with_reducible exact H2_)|with_reducible exact H|(rw[ab];exact H)|exact H
 have ae:=Aside0.mk ab
 clear ab
 replace H:=Option.bind_eq_some_iff.mp H
 obtain⟨ac,A20,H⟩:=H
 replace H:(if ac=true then(some (([]:List Int),5)) else((nat_own.f k l0).bind fun aa=>(some (aa,0))))=some (r1,r2):=H
 have A2:=Aside0.mk A20
 clear A20
 by_cases c3:ac=true
 ·subst c3
  have H1:(some (([]:List Int),5))=some (r1,r2):=by rw[if_pos rfl]at H;exact H
  clear H
  have H:=H1
  clear H1
  simp only[Option.some.injEq,Prod.mk.injEq]at H
  obtain⟨rfl,rfl⟩:=H
  go_enter Tryz.func165,Tryz.ntmps165
  go_wp2_with (first|(refine gd 5 rfl ?_;refine Kd.N_lit (Kd.slice 48 (Kd.int .u64)) _ 26 ?hg (N':=5) ?hd (xs:=([l0]:List (List Int))) (inner:=[.slice A0 l0.length c0]) (ok:=(fun k_=>(P0_ k_∨w.heap.size≤k_))) (okp:=(fun k_=>(P0_ k_∨w.heap.size≤k_))) ?hr ?hp (fun _ hk=>hk) ((show ∀k_,w.heap.size≤k_→(fun k_=>(P0_ k_∨w.heap.size≤k_)) k_ from fun k_ hk=>(.inr (Nat.le_trans (below_size (khu HB.out)) hk))) _ (Nat.le_refl _)) (Below.refl _ _) (Nat.le_refl _) Z1 ?_;(case hd=>rfl);(case hg=>rfl);(case hr=>first|(go_simp;done)|(go_simp;rfl));(case hp=>exact(Reps.one (show Kd.FK (Kd.slice 48 (Kd.int .u64)) _ _ l0 [.slice A0 l0.length c0] from(Kd.FK_slice_mk (Kd.V_reads' (Kd.V_mono (ok':=(fun k_=>(P0_ k_∨w.heap.size≤k_))) (HO0.out) (fun k_ hk=>hk))).2.1 (Kd.V_F (Kd.V_mono (ok':=(fun k_=>(P0_ k_∨w.heap.size≤k_))) (HO0.out) (fun k_ hk=>hk))))) (Reps.none _ _)));intro ah w4 ho5 hb hg_ hnew_;clear hg_ hnew_;(first|rw[←ae.out]at ho5|(simp only[Int.reduceToNat]at ho5;rw[←ae.out]at ho5));replace HO0:=Aside0.mk (Kd.V_elder' (kvu HO0.out) (Kd.N_base ho5) hb);have HO681:=Aside0.mk (Kd.N_lower ho5 (below_size (khu HB.out)));replace HB:=kbs HB hb;clear hb ho5;obtain⟨Ao6,co6,eo6⟩:=Kd.N_slice HO681.out;subst eo6)|((with_reducible refine gate_callee (f:=164) rfl ?_);refine kgl (some 6) rfl rfl Tryz.func164 #[.slice Ao6 af.length co6] rfl ?_;(with_reducible refine(nat_long.calls k _ _ af true _ ?side1 ?side2 A2.out).mono ?_);(case side1=>repeat (first|exact(Kd.N_reads' HO681.out).2.2|(with_reducible refine Kd.C_alloc ?_ _)|(with_reducible refine Kd.C_drewN ?_ _)|(with_reducible refine Kd.C_drew ?_)));(case side2=>exact(Kd.N_reads' HO681.out).2.1);rintro e w7 ⟨rfl,hb⟩;refine⟨_,rfl,?_⟩;replace HO0:=kvb HO0 hb;replace HO681:=Aside0.mk (Kd.N_below J3 hb);replace HB:=kbs HB hb;(try clear hb);(try clear hb2);(try clear hk);(try clear hi)))
  go_ret2
  exact⟨_,D0,F1,khu HB.out⟩
 replace c3:=Bool.eq_false_iff.mpr c3
 subst c3
 have H1:((nat_own.f k l0).bind fun aa=>(some (aa,0)))=some (r1,r2):=by rw[if_neg (show ¬(false=true) by decide)]at H;exact H
 clear H
 have H:=H1
 clear H1
 replace H:=Option.bind_eq_some_iff.mp H
 obtain⟨aa,A80,H⟩:=H
 replace H:(some (aa,0))=some (r1,r2):=H
 have A8:=Aside0.mk A80
 clear A80
 simp only[Option.some.injEq,Prod.mk.injEq]at H
 obtain⟨rfl,rfl⟩:=H
 go_enter Tryz.func165,Tryz.ntmps165
 go_wp2_with (first|(refine gd 5 rfl ?_;refine Kd.N_lit (Kd.slice 48 (Kd.int .u64)) _ 26 ?hg (N':=5) ?hd (xs:=([l0]:List (List Int))) (inner:=[.slice A0 l0.length c0]) (ok:=(fun k_=>(P0_ k_∨w.heap.size≤k_))) (okp:=(fun k_=>(P0_ k_∨w.heap.size≤k_))) ?hr ?hp (fun _ hk=>hk) ((show ∀k_,w.heap.size≤k_→(fun k_=>(P0_ k_∨w.heap.size≤k_)) k_ from fun k_ hk=>(.inr (Nat.le_trans (below_size (khu HB.out)) hk))) _ (Nat.le_refl _)) (Below.refl _ _) (Nat.le_refl _) Z1 ?_;(case hd=>rfl);(case hg=>rfl);(case hr=>first|(go_simp;done)|(go_simp;rfl));(case hp=>exact(Reps.one (show Kd.FK (Kd.slice 48 (Kd.int .u64)) _ _ l0 [.slice A0 l0.length c0] from(Kd.FK_slice_mk (Kd.V_reads' (Kd.V_mono (ok':=(fun k_=>(P0_ k_∨w.heap.size≤k_))) (HO0.out) (fun k_ hk=>hk))).2.1 (Kd.V_F (Kd.V_mono (ok':=(fun k_=>(P0_ k_∨w.heap.size≤k_))) (HO0.out) (fun k_ hk=>hk))))) (Reps.none _ _)));intro ah w9 ad hb hg_ hnew_;clear hg_ hnew_;(first|rw[←ae.out]at ad|(simp only[Int.reduceToNat]at ad;rw[←ae.out]at ad));replace HO0:=Aside0.mk (Kd.V_elder' (kvu HO0.out) (Kd.N_base ad) hb);have HO681:=Aside0.mk (Kd.N_lower ad (below_size (khu HB.out)));replace HB:=kbs HB hb;clear hb ad;obtain⟨ai,aj,ak⟩:=Kd.N_slice HO681.out;subst ak)|((with_reducible refine gate_callee (f:=164) rfl ?_);refine kgl (some 6) rfl rfl Tryz.func164 #[.slice ai af.length aj] rfl ?_;(with_reducible refine(nat_long.calls k _ _ af false _ ?side1 ?side2 A2.out).mono ?_);(case side1=>repeat (first|exact(Kd.N_reads' HO681.out).2.2|(with_reducible refine Kd.C_alloc ?_ _)|(with_reducible refine Kd.C_drewN ?_ _)|(with_reducible refine Kd.C_drew ?_)));(case side2=>exact(Kd.N_reads' HO681.out).2.1);rintro e w12 ⟨rfl,hb⟩;refine⟨_,rfl,?_⟩;replace HO0:=kvb HO0 hb;replace HO681:=Aside0.mk (Kd.N_below J3 hb);replace HB:=kbs HB hb;(try clear hb);(try clear hb2);(try clear hk);(try clear hi))|((with_reducible refine gate_callee (f:=179) rfl ?_);refine kgl (some 8) rfl rfl Tryz.func179 #[.slice A0 l0.length c0] rfl ?_;(with_reducible refine(nat_own.calls k _ _ l0 aa _ ?side1 ?side2 A8.out).mono ?_);(case side1=>repeat (first|exact(Kd.V_reads' HO0.out).2.2|(with_reducible refine Kd.C_alloc ?_ _)|(with_reducible refine Kd.C_drewN ?_ _)|(with_reducible refine Kd.C_drew ?_)));(case side2=>exact(Kd.V_reads' HO0.out).2.1);rintro e w13 ⟨al,rfl,ho0,hb⟩;refine⟨_,rfl,?_⟩;replace HO0:=Aside0.mk (Kd.V_elder' (kvu HO0.out) (Kd.R_base ho0) hb);replace HO681:=Aside0.mk (Kd.N_elder' J3 (Kd.R_base ho0) hb);have ag:=Aside0.mk (Kd.R_lower (Kd.R_newM (M:=fun k_=>(w.heap.size≤k_)) ho0 (below_size (khu HB.out)) (fun k_ h_=>h_)) (below_size (khu HB.out)));replace HB:=kbs HB hb;(try clear hb);(try clear hb2);(try clear hk);(try clear hi);(try clear ho0)))
 go_ret2
 exact⟨_,D0,by(with_reducible repeat (first|apply Kd.R_alloc|apply Kd.R_drewN|apply Kd.R_drew));exact Kd.R_mono ag.out (fun _ hk=>hk.1),khu HB.out⟩
def nat_shl.l0:Nat→Int→List Int→Int→List Int→Int→Int→Option (List Int)
 | 0,_,_,_,_,_,_=>none
 | k+1,x1,x5,x6,x13,x14,x15=>if x15<x14 then(if 0≤x15 then(if x15<(x13.length:Int) then(if 0≤x1 then(if x5.length<17592186044416 then(if 0≤(IntKind.u64.wrap (64-x1)) then(nat_shl.l0 k x1 (x5++[Go.bits .or .u64 (shl .u64 (rd x13 x15) x1) x6]) (shr .u64 (rd x13 x15) (IntKind.u64.wrap (64-x1))) x13 x14 (wrap64 (x15+1))) else(none)) else(none)) else(none)) else(none)) else(none)) else(if x5.length<17592186044416 then(some (x5++[x6])) else(none))
def nat_shl.f (k:Nat) (l0:List Int) (a1:Int):Option (List Int):=if 0≤(wrap64 ((l0.length:Int)+1)) then(if(wrap64 ((l0.length:Int)+1):Int).toNat≤35184372088832 then(nat_shl.l0 k a1 (([]:List Int)) 0 l0 (l0.length:Int) 0) else(none)) else(none)
theorem nat_shl.mono_l:∀k,(∀y0 y1 y2 y3 y4 y5,LeO (nat_shl.l0 k y0 y1 y2 y3 y4 y5) (nat_shl.l0 (k+1) y0 y1 y2 y3 y4 y5))
 | 0=>fun _ _ _ _ _ _ r h=>by simp[nat_shl.l0]at h
 | k+1=>by
  have ih0:=nat_shl.mono_l k
  intro y0 y1 y2 y3 y4 y5
  unfold nat_shl.l0
  repeat' first
  | (with_reducible exact ih0 _ _ _ _ _ _)
  | (with_reducible exact LeO.refl _)
  | (with_reducible exact LeO.none _)
  | (with_reducible refine LeO.ite ?_ ?_)
  | (with_reducible refine LeO.bind ?_ (fun _=>?_))
  | exact ih0 _ _ _ _ _ _
  | exact LeO.none _
  | refine LeO.ite ?_ ?_
  | refine LeO.bind ?_ (fun _=>?_)
theorem nat_shl.mono:∀a0 a1 k,LeO (nat_shl.f k a0 a1) (nat_shl.f (k+1) a0 a1):=by
 intro a0 a1 k
 have ih0:=nat_shl.mono_l k
 unfold nat_shl.f
 repeat' first
   | (with_reducible exact ih0 _ _ _ _ _ _)
   | (with_reducible exact LeO.refl _)
   | (with_reducible exact LeO.none _)
   | (with_reducible refine LeO.ite ?_ ?_)
   | (with_reducible refine LeO.bind ?_ (fun _=>?_))
   | exact ih0 _ _ _ _ _ _
   | exact LeO.none _
   | refine LeO.ite ?_ ?_
   | refine LeO.bind ?_ (fun _=>?_)
theorem nat_shl.calls (k:Nat) (A0:Option Addr) (c0:Nat) (l0:List Int) (a1:Int) (r:List Int) (w:World) (hr0:Kd.C (Kd.int .u64) w A0 l0.length l0) (hc0:l0.length≤c0) (h:nat_shl.f k l0 a1=some r) :
  Calls Tryz.prog 166 #[.slice A0 l0.length c0,.int .u64 a1] w fun e w'=>∃v0_:Value,e=.returned (v0_)∧Kd.R (Kd.int .u64) 48 w' w.heap.size (fun _=>True) v0_ r∧Below w.heap.size w w':=by
 have HR0:=Aside0.mk hr0
 have HC0:=Aside0.mk hc0
 clear hr0 hc0
 have HB:=Aside0.mk (Below.refl w.heap.size w)
 have H:(if 0≤(wrap64 ((l0.length:Int)+1)) then(if(wrap64 ((l0.length:Int)+1):Int).toNat≤35184372088832 then(nat_shl.l0 k a1 (([]:List Int)) 0 l0 (l0.length:Int) 0) else(none)) else(none))=some r:=h
 clear h
 obtain⟨ji3,hji3⟩:∃j_:Int,(wrap64 ((l0.length:Int)+1))=j_:=⟨_,rfl⟩
 replace H:(if 0≤(ji3) then(if(ji3:Int).toNat≤35184372088832 then(nat_shl.l0 k a1 (([]:List Int)) 0 l0 (l0.length:Int) 0) else(none)) else(none))=some r:=by first|(rw[hji3]at H;exact H)|(simp only[hji3]at H ⊢;exact H)
 have aN:(IntKind.i64.wrap ((l0.length:Int)+1))=ji3:=(i64_w _).trans hji3
 by_cases c4:0≤(ji3)
 ·rw [if_pos c4]at H
  have aC:=eq_true c4
  have aD:decide (0≤(ji3))=true:=decide_eq_true c4
  clear c4
  by_cases c5:(ji3:Int).toNat≤35184372088832
  ·rw [if_pos c5]at H
   have aE:=eq_true c5
   have aG:decide ((ji3:Int).toNat≤35184372088832)=true:=decide_eq_true c5
   clear c5
   obtain⟨ar,ae⟩:∃y_:List Int,y_=(([]:List Int)):=⟨_,rfl⟩
   replace H:(nat_shl.l0 k a1 ar 0 l0 (l0.length:Int) 0)=some r:=by first|(rw[ae];with_reducible exact H)|(have H2_:=(Option.bind_some _ _).symm.trans H;rw[ae];with_reducible exact H2_)|(have H2_:=(Option.bind_some _ _).symm.trans H;with_reducible exact H2_)|with_reducible exact H|(rw[ae];exact H)|exact H
   have ap:=Aside0.mk ae
   clear ae
   have H':=Aside0.mk H
   clear H
   go_enter Tryz.func166,Tryz.ntmps166
   go_wp2_with (first|(refine gd 12 rfl ?_;refine Kd.R_make0 (Kd.int .u64) _ 48 rfl (N:=12) rfl 26 _ _ rfl ji3 rfl rfl Tryz.underlying26 (.int .u64 0) 8 info48 rfl X0 Z0 0 (ok:=fun _=>True) (okp:=fun _=>True) rfl (fun _ hk=>hk) trivial (of_decide_eq_true ‹_›) (Nat.le_trans (Nat.mul_le_mul_right _ (of_decide_eq_true ‹_›:ji3.toNat≤35184372088832)) Z0) (Below.refl _ _) (Nat.le_refl _) ?_;intro aX w6 ho7 hb hg_ hnew_;clear hg_ hnew_;(first|rw[←ap.out]at ho7|(simp only[Int.reduceToNat]at ho7;rw[←ap.out]at ho7));have au:=Aside0.mk (Kd.R_lower ho7 (below_size (khu HB.out)));replace HB:=kbs HB hb;clear hb ho7))
   go_loopg [5,6,15] k (fun kq v5 v6 v15 w'=>∃(ab:List Int) (ac:Int) (aa:Int),v6=.int .u64 ac∧v15=.int .i64 aa∧Aside0 (nat_shl.l0 kq a1 ab ac l0 (l0.length:Int) aa=some r)∧Aside0 (kq≤k)∧Aside0 (Kd.R (Kd.int .u64) 48 w' w.heap.size (fun _=>True) v5 ab)∧Aside0 (Below w.heap.size w w'))
   case atStart=>exact⟨(ar),(0),(0),J0,J0,H',⟨Nat.le_refl _⟩,⟨kru au.out⟩,⟨khu HB.out⟩⟩
   case round=>
    clear H'
    try clear c1
    try clear p2
    try clear c4
    try clear aC
    try clear aD
    try clear c5
    try clear aE
    try clear aG
    try clear p6
    obtain⟨ab,ac,aa,rfl,rfl,HA,HK1,ak,HB⟩:=hrel
    cases gk with
    | zero=>exact absurd HA.out (by simp[nat_shl.l0])
    | succ k1=>
     have H:=HA.out
     clear HA
     simp only[nat_shl.l0]at H
     by_cases c8:aa<(l0.length:Int)
     ·rw [if_pos c8]at H
      have aH:decide (aa<(l0.length:Int))=true:=decide_eq_true c8
      clear c8
      by_cases c9:0≤aa
      ·rw [if_pos c9]at H
       have aY:decide (0≤aa)=true:=decide_eq_true c9
       clear c9
       by_cases c10:aa<(l0.length:Int)
       ·rw [if_pos c10]at H
        have aQ:decide (aa<(l0.length:Int))=true:=decide_eq_true c10
        clear c10
        by_cases c11:0≤a1
        ·rw[if_pos c11]at H
         have aR:=eq_true c11
         have aT:decide (0≤a1)=true:=decide_eq_true c11
         clear c11
         obtain⟨ai,hji12⟩:∃j_:Int,(shl .u64 (rd l0 aa) a1)=j_:=⟨_,rfl⟩
         replace H:(if ab.length<17592186044416 then(if 0≤(IntKind.u64.wrap (64-a1)) then(nat_shl.l0 k1 a1 (ab++[Go.bits .or .u64 (ai) ac]) (shr .u64 (rd l0 aa) (IntKind.u64.wrap (64-a1))) l0 (l0.length:Int) (wrap64 (aa+1))) else(none)) else(none))=some r:=by first|(rw[hji12]at H;exact H)|(simp only[hji12]at H ⊢;exact H)
         have hji12_:(IntKind.u64.wrap ((rd l0 aa)*2^min a1.toNat 64))=ai:=hji12
         have aK:a1≤64→(IntKind.u64.wrap ((rd l0 aa)*2^a1.toNat))=ai:=shl_small hji12
         by_cases c13:ab.length<17592186044416
         ·rw[if_pos c13]at H
          have av:=Aside0.mk c13
          clear c13
          obtain⟨al,af⟩:∃y_:List Int,y_=(ab++[Go.bits .or .u64 (ai) ac]):=⟨_,rfl⟩
          replace H:(if 0≤(IntKind.u64.wrap (64-a1)) then(nat_shl.l0 k1 a1 al (shr .u64 (rd l0 aa) (IntKind.u64.wrap (64-a1))) l0 (l0.length:Int) (wrap64 (aa+1))) else(none))=some r:=by first|(rw[af];with_reducible exact H)|(have H2_:=(Option.bind_some _ _).symm.trans H;rw[af];with_reducible exact H2_)|(have H2_:=(Option.bind_some _ _).symm.trans H;with_reducible exact H2_)|with_reducible exact H|(rw[af];exact H)|exact H
          have aw:=Aside0.mk af
          clear af
          obtain⟨ad,aq⟩:∃j_:Int,(IntKind.u64.wrap (64-a1))=j_:=⟨_,rfl⟩
          replace H:(if 0≤(ad) then(nat_shl.l0 k1 a1 al (shr .u64 (rd l0 aa) (ad)) l0 (l0.length:Int) (wrap64 (aa+1))) else(none))=some r:=by first|(rw[aq]at H;exact H)|(simp only[aq]at H ⊢;exact H)
          by_cases c15:0≤(ad)
          ·rw[if_pos c15]at H
           have aU:=eq_true c15
           have aV:decide (0≤(ad))=true:=decide_eq_true c15
           clear c15
           obtain⟨am,ag⟩:∃j_:Int,(shr .u64 (rd l0 aa) (ad))=j_:=⟨_,rfl⟩
           replace H:(nat_shl.l0 k1 a1 al am l0 (l0.length:Int) (wrap64 (aa+1)))=some r:=by first|(rw[ag]at H;exact H)|(simp only[ag]at H ⊢;exact H)
           have hji16_:((rd l0 aa)/2^min (ad).toNat 64)=am:=ag
           have aM:(ad)≤64→((rd l0 aa)/2^(ad).toNat)=am:=shr_small ag
           have H':=Aside0.mk H
           clear H
           have an:0≤(aa:Int):=of_decide_eq_true ‹_›
           have ao:aa<(l0.length:Int):=of_decide_eq_true ‹_›
           obtain⟨aW,aI,aj⟩:=Kd.at_int HR0.out aa an ao
           cases aI
           replace aj:=(HB.out.cell (World.block_lt_of_cell? w _ aj)).trans aj
           replace an:=eq_true an
           replace ao:=eq_true ao
           go_wp2_with (first|((with_reducible refine gate_builtin (b:=.append) (xs:=#[.tmp 19,.tmp 25]) rfl ?_);at_builtin;refine Kd.R_append (Kd.int .u64) (w0:=w) w.heap.size rfl (.tmp 19) (.tmp 25) 26 48 (.int .u64 0) 8 rfl Tryz.underlying26 info48 rfl X0 Z0 u5 ab (Go.bits .or .u64 (ai) ac) [.int .u64 (Go.bits .or .u64 (ai) ac)] (fun _=>True) (fun _=>False) rfl rfl ?aP (fun _ hk=>hk.elim) ?aF ?aO ?aB ?aS ?aL ?_;(case aP=>exact rfl);(case aB=>exact(khu HB.out));(case aF=>exact(fun _ _=>trivial));(case aO=>exact(kru ak.out));(case aS=>exact(below_size (khu HB.out)));(case aL=>have:=av.out;omega);intro aZ w17 ho hb hg hat;rw[←aw.out]at ho;replace HB:=Aside0.mk (hb);have ax:=Aside0.mk (ho);clear ak;clear ho hb hg hat))
           go_roundg k1
           case measure=>have:=HK1.out;omega
           case rel=>exact⟨(al),(am),(wrap64 (aa+1)),(by first|rfl|(simp;done)|(simp only[←ag]<;>(first|rfl|simp))|(simp[*];done)),J0,H',⟨X2⟩,⟨kru ax.out⟩,⟨khu HB.out⟩⟩
          rw[if_neg c15]at H
          exact absurd H Z1
         rw[if_neg c13]at H
         exact absurd H Z1
        rw[if_neg c11]at H
        exact absurd H Z1
       rw[if_neg c10]at H
       exact absurd H Z1
      rw[if_neg c9]at H
      exact absurd H Z1
     rw[if_neg c8]at H
     have aH:decide (aa<(l0.length:Int))=false:=decide_eq_false c8
     clear c8
     by_cases c18:ab.length<17592186044416
     ·rw[if_pos c18]at H
      have ay:=Aside0.mk c18
      clear c18
      obtain⟨aJ,ah⟩:∃y_:List Int,y_=(ab++[ac]):=⟨_,rfl⟩
      replace H:(some aJ)=some r:=by first|(rw[ah];with_reducible exact H)|(have H2_:=(Option.bind_some _ _).symm.trans H;rw[ah];with_reducible exact H2_)|(have H2_:=(Option.bind_some _ _).symm.trans H;with_reducible exact H2_)|with_reducible exact H|(rw[ah];exact H)|exact H
      have az:=Aside0.mk ah
      clear ah
      obtain rfl:=Option.some.inj H
      go_wp2_with (first|((with_reducible refine gate_builtin (b:=.append) (xs:=#[.tmp 32,.tmp 34]) rfl ?_);at_builtin;refine Kd.R_append (Kd.int .u64) (w0:=w) w.heap.size rfl (.tmp 32) (.tmp 34) 26 48 (.int .u64 0) 8 rfl Tryz.underlying26 info48 rfl X0 Z0 u5 ab ac [.int .u64 ac] (fun _=>True) (fun _=>False) rfl rfl ?aP (fun _ hk=>hk.elim) ?aF ?aO ?aB ?aS ?aL ?_;(case aP=>exact rfl);(case aB=>exact(khu HB.out));(case aF=>exact(fun _ _=>trivial));(case aO=>exact(kru ak.out));(case aS=>exact(below_size (khu HB.out)));(case aL=>have:=ay.out;omega);intro bb w19 ho hb hg hat;rw[←az.out]at ho;replace HB:=Aside0.mk (hb);have aA:=Aside0.mk (ho);clear ak;clear ho hb hg hat))
      go_ret
      exact⟨_,Z2,kru aA.out,khu HB.out⟩
     rw[if_neg c18]at H
     exact absurd H Z1
  rw[if_neg c5]at H
  exact absurd H Z1
 rw[if_neg c4]at H
 exact absurd H Z1
def nat_Shl.f (k:Nat) (l0:List Int) (a1:Int):Option (List Int×Int):=if a1<0 then(some (([]:List Int),1)) else((nat_long.f k (([l0]:List (List Int)))).bind fun t699=>(if t699=true then(some (([]:List Int),5)) else((nat_trim.f k l0).bind fun t700=>(if(t700.length:Int)=0 then(some (([]:List Int),0)) else(if a1>262144 then(some (([]:List Int),5)) else(if 0≤(wrap64 (Int.tdiv a1 64)) then(if(wrap64 (Int.tdiv a1 64):Int).toNat≤35184372088832 then((some (List.replicate (wrap64 (Int.tdiv a1 64):Int).toNat 0:List Int)).bind fun y703=>((nat_trim.f k l0).bind fun t706=>((nat_shl.f k t706 (IntKind.u64.wrap (Int.tmod a1 64))).bind fun t709=>(if y703.length+t709.length<17592186044416 then((nat_out.f k (y703++t709)).bind fun bt715=>(some (bt715.1,bt715.2))) else(none))))) else(none)) else(none)))))))
theorem nat_Shl.mono:∀a0 a1 k,LeO (nat_Shl.f k a0 a1) (nat_Shl.f (k+1) a0 a1):=by
 intro a0 a1 k
 unfold nat_Shl.f
 repeat' first
   | (with_reducible exact nat_long.mono _ _)
   | (with_reducible exact nat_out.mono _ _)
   | (with_reducible exact nat_shl.mono _ _ _)
   | (with_reducible exact nat_trim.mono _ _)
   | (with_reducible exact LeO.refl _)
   | (with_reducible exact LeO.none _)
   | (with_reducible refine LeO.ite ?_ ?_)
   | (with_reducible refine LeO.bind ?_ (fun _=>?_))
   | exact nat_long.mono _ _
   | exact nat_out.mono _ _
   | exact nat_shl.mono _ _ _
   | exact nat_trim.mono _ _
   | exact LeO.none _
   | refine LeO.ite ?_ ?_
   | refine LeO.bind ?_ (fun _=>?_)
def nat_Shl.T9:Bool×List (List Nat×List Nat):=(true,[([],[]),([0],[0]),([1,1],[1]),([],[]),([3],[3]),([],[]),([5],[5]),([6],[6]),([4,7,4],[4,7]),([2,8,8],[2,8]),([9,9],[9]),([10],[10]),([10],[10]),([11,10,0,1,2,3,4,5,6,7,8,9,10,11,12],[11]),([12,13,0,1,2,3,4,5,6,7,8,9,10,11,12,13],[12])])
def nat_Shl.B9:List Nat:=[0,1,3,0,8,0,32,96,248,511,1023,2047,2047,8191,16383]
theorem nat_Shl.tab9:rtab .any (opsOf Tryz.f148 9)=nat_Shl.T9:=by kernel_rfl
theorem nat_Shl.bits9:waitsOk nat_Shl.T9.2 nat_Shl.B9=true:=by kernel_rfl
theorem nat_Shl.calls (k:Nat) (P0_:Nat→Prop) (A0:Option Addr) (c0:Nat) (l0:List Int) (a1:Int) (r1:List Int) (r2:Int) (w:World) (hs0:Kd.V (Kd.int .u64) 48 w w.heap.size (fun k_=>P0_ k_) (.slice A0 l0.length c0) l0) (h:nat_Shl.f k l0 a1=some (r1,r2)) :
  Calls Tryz.prog 148 #[.slice A0 l0.length c0,.int .i64 a1] w fun e w'=>∃v0_:Value,e=.returned (.tuple #[v0_,.int .i64 r2])∧Kd.R (Kd.int .u64) 48 w' w.heap.size (fun k_=>(w.heap.size≤k_)) v0_ r1∧Below w.heap.size w w':=by
 have HO0:=Aside0.mk (show Kd.V (Kd.int .u64) 48 w w.heap.size (fun k_=>(P0_ k_∨w.heap.size≤k_)) (.slice A0 l0.length c0) l0 from Kd.V_mono hs0 (fun k_ hk=>.inl hk))
 have HB:=Aside0.mk (Below.refl w.heap.size w)
 have H:(if a1<0 then(some (([]:List Int),1)) else((nat_long.f k (([l0]:List (List Int)))).bind fun ay=>(if ay=true then(some (([]:List Int),5)) else((nat_trim.f k l0).bind fun ag=>(if(ag.length:Int)=0 then(some (([]:List Int),0)) else(if a1>262144 then(some (([]:List Int),5)) else(if 0≤(wrap64 (Int.tdiv a1 64)) then(if(wrap64 (Int.tdiv a1 64):Int).toNat≤35184372088832 then((some (List.replicate (wrap64 (Int.tdiv a1 64):Int).toNat 0:List Int)).bind fun ae=>((nat_trim.f k l0).bind fun af=>((nat_shl.f k af (IntKind.u64.wrap (Int.tmod a1 64))).bind fun aa=>(if ae.length+aa.length<17592186044416 then((nat_out.f k (ae++aa)).bind fun ab=>(some (ab.1,ab.2))) else(none))))) else(none)) else(none))))))))=some (r1,r2):=h
 clear h
 by_cases c3:a1<0
 ·rw[if_pos c3]at H
  have bq:decide (a1<0)=true:=decide_eq_true c3
  clear c3
  simp only[Option.some.injEq,Prod.mk.injEq]at H
  obtain⟨rfl,rfl⟩:=H
  go_enter Tryz.func148,Tryz.ntmps148
  go_wp2
  go_ret2
  exact⟨_,D0,F1,khu HB.out⟩
 rw[if_neg c3]at H
 have bq:decide (a1<0)=false:=decide_eq_false c3
 clear c3
 obtain⟨ad,au⟩:∃y_:List (List Int),y_=(([l0]:List (List Int))):=⟨_,rfl⟩
 replace H:((nat_long.f k ad).bind fun ay=>(if ay=true then(some (([]:List Int),5)) else((nat_trim.f k l0).bind fun ag=>(if(ag.length:Int)=0 then(some (([]:List Int),0)) else(if a1>262144 then(some (([]:List Int),5)) else(if 0≤(wrap64 (Int.tdiv a1 64)) then(if(wrap64 (Int.tdiv a1 64):Int).toNat≤35184372088832 then((some (List.replicate (wrap64 (Int.tdiv a1 64):Int).toNat 0:List Int)).bind fun ae=>((nat_trim.f k l0).bind fun af=>((nat_shl.f k af (IntKind.u64.wrap (Int.tmod a1 64))).bind fun aa=>(if ae.length+aa.length<17592186044416 then((nat_out.f k (ae++aa)).bind fun ab=>(some (ab.1,ab.2))) else(none))))) else(none)) else(none)))))))=some (r1,r2):=by first|(rw[au];with_reducible exact H)|(have H2_:=(Option.bind_some _ _).symm.trans H;rw[au];with_reducible exact H2_)|(have H2_:=(Option.bind_some _ _).symm.trans H;with_reducible exact H2_)|with_reducible exact H|(rw[au];exact H)|exact H
 have am:=Aside0.mk au
 clear au
 replace H:=Option.bind_eq_some_iff.mp H
 obtain⟨ay,A40,H⟩:=H
 replace H:(if ay=true then(some (([]:List Int),5)) else((nat_trim.f k l0).bind fun ag=>(if(ag.length:Int)=0 then(some (([]:List Int),0)) else(if a1>262144 then(some (([]:List Int),5)) else(if 0≤(wrap64 (Int.tdiv a1 64)) then(if(wrap64 (Int.tdiv a1 64):Int).toNat≤35184372088832 then((some (List.replicate (wrap64 (Int.tdiv a1 64):Int).toNat 0:List Int)).bind fun ae=>((nat_trim.f k l0).bind fun af=>((nat_shl.f k af (IntKind.u64.wrap (Int.tmod a1 64))).bind fun aa=>(if ae.length+aa.length<17592186044416 then((nat_out.f k (ae++aa)).bind fun ab=>(some (ab.1,ab.2))) else(none))))) else(none)) else(none))))))=some (r1,r2):=H
 have A4:=Aside0.mk A40
 clear A40
 by_cases c5:ay=true
 ·subst c5
  have H1:(some (([]:List Int),5))=some (r1,r2):=by rw[if_pos rfl]at H;exact H
  clear H
  have H:=H1
  clear H1
  simp only[Option.some.injEq,Prod.mk.injEq]at H
  obtain⟨rfl,rfl⟩:=H
  go_enter Tryz.func148,Tryz.ntmps148
  go_wp2_with (first|(refine gd 11 rfl ?_;refine Kd.N_lit (Kd.slice 48 (Kd.int .u64)) _ 26 ?hg (N':=11) ?hd (xs:=([l0]:List (List Int))) (inner:=[.slice A0 l0.length c0]) (ok:=(fun k_=>(P0_ k_∨w.heap.size≤k_))) (okp:=(fun k_=>(P0_ k_∨w.heap.size≤k_))) ?hr ?hp (fun _ hk=>hk) ((show ∀k_,w.heap.size≤k_→(fun k_=>(P0_ k_∨w.heap.size≤k_)) k_ from fun k_ hk=>(.inr (Nat.le_trans (below_size (khu HB.out)) hk))) _ (Nat.le_refl _)) (Below.refl _ _) (Nat.le_refl _) Z1 ?_;(case hd=>rfl);(case hg=>rfl);(case hr=>first|(go_simp;done)|(go_simp;rfl));(case hp=>exact(Reps.one (show Kd.FK (Kd.slice 48 (Kd.int .u64)) _ _ l0 [.slice A0 l0.length c0] from(Kd.FK_slice_mk (Kd.V_reads' (Kd.V_mono (ok':=(fun k_=>(P0_ k_∨w.heap.size≤k_))) (HO0.out) (fun k_ hk=>hk))).2.1 (Kd.V_F (Kd.V_mono (ok':=(fun k_=>(P0_ k_∨w.heap.size≤k_))) (HO0.out) (fun k_ hk=>hk))))) (Reps.none _ _)));intro aK w6 ho7 hb hg_ hnew_;clear hg_ hnew_;(first|rw[←am.out]at ho7|(simp only[Int.reduceToNat]at ho7;rw[←am.out]at ho7));replace HO0:=Aside0.mk (Kd.V_elder' (kvu HO0.out) (Kd.N_base ho7) hb);have HO698:=Aside0.mk (Kd.N_lower ho7 (below_size (khu HB.out)));replace HB:=kbs HB hb;clear hb ho7;obtain⟨Ao8,co8,eo8⟩:=Kd.N_slice HO698.out;subst eo8)|((with_reducible refine gate_callee (f:=164) rfl ?_);refine kgl (some 12) rfl rfl Tryz.func164 #[.slice Ao8 ad.length co8] rfl ?_;(with_reducible refine(nat_long.calls k _ _ ad true _ ?side1 ?side2 A4.out).mono ?_);(case side1=>repeat (first|exact(Kd.N_reads' HO698.out).2.2|(with_reducible refine Kd.C_alloc ?_ _)|(with_reducible refine Kd.C_drewN ?_ _)|(with_reducible refine Kd.C_drew ?_)));(case side2=>exact(Kd.N_reads' HO698.out).2.1);rintro e w9 ⟨rfl,hb⟩;refine⟨_,rfl,?_⟩;replace HO0:=kvb HO0 hb;replace HO698:=Aside0.mk (Kd.N_below B0 hb);replace HB:=kbs HB hb;(try clear hb);(try clear hb2);(try clear hk);(try clear hi)))
  go_ret2
  exact⟨_,D0,F1,khu HB.out⟩
 replace c5:=Bool.eq_false_iff.mpr c5
 subst c5
 have H1:((nat_trim.f k l0).bind fun ag=>(if(ag.length:Int)=0 then(some (([]:List Int),0)) else(if a1>262144 then(some (([]:List Int),5)) else(if 0≤(wrap64 (Int.tdiv a1 64)) then(if(wrap64 (Int.tdiv a1 64):Int).toNat≤35184372088832 then((some (List.replicate (wrap64 (Int.tdiv a1 64):Int).toNat 0:List Int)).bind fun ae=>((nat_trim.f k l0).bind fun af=>((nat_shl.f k af (IntKind.u64.wrap (Int.tmod a1 64))).bind fun aa=>(if ae.length+aa.length<17592186044416 then((nat_out.f k (ae++aa)).bind fun ab=>(some (ab.1,ab.2))) else(none))))) else(none)) else(none)))))=some (r1,r2):=by rw[if_neg (show ¬(false=true) by decide)]at H;exact H
 clear H
 have H:=H1
 clear H1
 replace H:=Option.bind_eq_some_iff.mp H
 obtain⟨ag,aQ,H⟩:=H
 replace H:(if(ag.length:Int)=0 then(some (([]:List Int),0)) else(if a1>262144 then(some (([]:List Int),5)) else(if 0≤(wrap64 (Int.tdiv a1 64)) then(if(wrap64 (Int.tdiv a1 64):Int).toNat≤35184372088832 then((some (List.replicate (wrap64 (Int.tdiv a1 64):Int).toNat 0:List Int)).bind fun ae=>((nat_trim.f k l0).bind fun af=>((nat_shl.f k af (IntKind.u64.wrap (Int.tmod a1 64))).bind fun aa=>(if ae.length+aa.length<17592186044416 then((nat_out.f k (ae++aa)).bind fun ab=>(some (ab.1,ab.2))) else(none))))) else(none)) else(none))))=some (r1,r2):=H
 have A10:=Aside0.mk aQ
 clear aQ
 by_cases c11:(ag.length:Int)=0
 ·rw[if_pos c11]at H
  have bj:((ag.length:Int)==0)=true:=beq_iff_eq.mpr c11
  have bk:((ag.length:Int) != 0)=false:=bne_eq_false_iff_eq.mpr c11
  clear c11
  simp only[Option.some.injEq,Prod.mk.injEq]at H
  obtain⟨rfl,rfl⟩:=H
  go_enter Tryz.func148,Tryz.ntmps148
  go_wp2_with (first|(refine gd 11 rfl ?_;refine Kd.N_lit (Kd.slice 48 (Kd.int .u64)) _ 26 ?hg (N':=11) ?hd (xs:=([l0]:List (List Int))) (inner:=[.slice A0 l0.length c0]) (ok:=(fun k_=>(P0_ k_∨w.heap.size≤k_))) (okp:=(fun k_=>(P0_ k_∨w.heap.size≤k_))) ?hr ?hp (fun _ hk=>hk) ((show ∀k_,w.heap.size≤k_→(fun k_=>(P0_ k_∨w.heap.size≤k_)) k_ from fun k_ hk=>(.inr (Nat.le_trans (below_size (khu HB.out)) hk))) _ (Nat.le_refl _)) (Below.refl _ _) (Nat.le_refl _) Z1 ?_;(case hd=>rfl);(case hg=>rfl);(case hr=>first|(go_simp;done)|(go_simp;rfl));(case hp=>exact(Reps.one (show Kd.FK (Kd.slice 48 (Kd.int .u64)) _ _ l0 [.slice A0 l0.length c0] from(Kd.FK_slice_mk (Kd.V_reads' (Kd.V_mono (ok':=(fun k_=>(P0_ k_∨w.heap.size≤k_))) (HO0.out) (fun k_ hk=>hk))).2.1 (Kd.V_F (Kd.V_mono (ok':=(fun k_=>(P0_ k_∨w.heap.size≤k_))) (HO0.out) (fun k_ hk=>hk))))) (Reps.none _ _)));intro aK w12 az hb hg_ hnew_;clear hg_ hnew_;(first|rw[←am.out]at az|(simp only[Int.reduceToNat]at az;rw[←am.out]at az));replace HO0:=Aside0.mk (Kd.V_elder' (kvu HO0.out) (Kd.N_base az) hb);have HO698:=Aside0.mk (Kd.N_lower az (below_size (khu HB.out)));replace HB:=kbs HB hb;clear hb az;obtain⟨aM,aN,br⟩:=Kd.N_slice HO698.out;subst br)|((with_reducible refine gate_callee (f:=164) rfl ?_);refine kgl (some 12) rfl rfl Tryz.func164 #[.slice aM ad.length aN] rfl ?_;(with_reducible refine(nat_long.calls k _ _ ad false _ ?side1 ?side2 A4.out).mono ?_);(case side1=>repeat (first|exact(Kd.N_reads' HO698.out).2.2|(with_reducible refine Kd.C_alloc ?_ _)|(with_reducible refine Kd.C_drewN ?_ _)|(with_reducible refine Kd.C_drew ?_)));(case side2=>exact(Kd.N_reads' HO698.out).2.1);rintro e w15 ⟨rfl,hb⟩;refine⟨_,rfl,?_⟩;replace HO0:=kvb HO0 hb;replace HO698:=Aside0.mk (Kd.N_below B0 hb);replace HB:=kbs HB hb;(try clear hb);(try clear hb2);(try clear hk);(try clear hi))|((with_reducible refine gate_callee (f:=96) rfl ?_);refine kgl (some 15) rfl rfl Tryz.func96 #[.slice A0 l0.length c0] rfl ?_;(with_reducible refine(nat_trim.calls k (fun k_=>((P0_ k_∨w.heap.size≤k_)∧some k_≠(.slice aM ad.length aN:Value).ownBlock)) _ _ l0 ag _ ?side1 A10.out).mono ?_);(case side1=>exact HO0.out);rintro e w16 ⟨aT,rfl,ho0,hb⟩;refine⟨_,rfl,?_⟩;replace HO0:=kvb HO0 hb;have HO702:=Aside0.mk (Kd.V_lower (Kd.V_mono (ok':=fun k_=>(P0_ k_∨w.heap.size≤k_)∧some k_≠(.slice aM ad.length aN:Value).ownBlock) ho0 (fun k_ hk_=>⟨Or.elim hk_ (fun hs_=>hs_.1) (fun hn_=>(.inr (Nat.le_trans (below_size (khu HB.out)) hn_))),Or.elim hk_ (fun hs_=>hs_.2) (fun hn_=>(Kd.fresh' (Kd.N_lt B0) k_ hn_))⟩)) (below_size (khu HB.out)));replace HO698:=Aside0.mk (Kd.N_below B0 hb);replace HB:=kbs HB hb;(try clear hb);(try clear hb2);(try clear hk);(try clear hi);(try clear ho0);obtain⟨bG,bH,bu⟩:=Kd.V_slice HO702.out;subst bu))
  go_ret2
  exact⟨_,D0,F1,khu HB.out⟩
 rw[if_neg c11]at H
 have bj:((ag.length:Int)==0)=false:=beq_eq_false_iff_ne.mpr c11
 have bk:((ag.length:Int) != 0)=true:=bne_iff_ne.mpr c11
 have bB:¬(ag=[]):=fun h_=>c11 (by rw[h_];rfl)
 by_cases c18:a1>262144
 ·rw[if_pos c18]at H
  have bl:decide (262144<a1)=true:=decide_eq_true c18
  clear c18
  simp only[Option.some.injEq,Prod.mk.injEq]at H
  obtain⟨rfl,rfl⟩:=H
  go_enter Tryz.func148,Tryz.ntmps148
  go_wp2_with (first|(refine gd 11 rfl ?_;refine Kd.N_lit (Kd.slice 48 (Kd.int .u64)) _ 26 ?hg (N':=11) ?hd (xs:=([l0]:List (List Int))) (inner:=[.slice A0 l0.length c0]) (ok:=(fun k_=>(P0_ k_∨w.heap.size≤k_))) (okp:=(fun k_=>(P0_ k_∨w.heap.size≤k_))) ?hr ?hp (fun _ hk=>hk) ((show ∀k_,w.heap.size≤k_→(fun k_=>(P0_ k_∨w.heap.size≤k_)) k_ from fun k_ hk=>(.inr (Nat.le_trans (below_size (khu HB.out)) hk))) _ (Nat.le_refl _)) (Below.refl _ _) (Nat.le_refl _) Z1 ?_;(case hd=>rfl);(case hg=>rfl);(case hr=>first|(go_simp;done)|(go_simp;rfl));(case hp=>exact(Reps.one (show Kd.FK (Kd.slice 48 (Kd.int .u64)) _ _ l0 [.slice A0 l0.length c0] from(Kd.FK_slice_mk (Kd.V_reads' (Kd.V_mono (ok':=(fun k_=>(P0_ k_∨w.heap.size≤k_))) (HO0.out) (fun k_ hk=>hk))).2.1 (Kd.V_F (Kd.V_mono (ok':=(fun k_=>(P0_ k_∨w.heap.size≤k_))) (HO0.out) (fun k_ hk=>hk))))) (Reps.none _ _)));intro aK w19 aA hb hg_ hnew_;clear hg_ hnew_;(first|rw[←am.out]at aA|(simp only[Int.reduceToNat]at aA;rw[←am.out]at aA));replace HO0:=Aside0.mk (Kd.V_elder' (kvu HO0.out) (Kd.N_base aA) hb);have HO698:=Aside0.mk (Kd.N_lower aA (below_size (khu HB.out)));replace HB:=kbs HB hb;clear hb aA;obtain⟨Ao21,co21,bv⟩:=Kd.N_slice HO698.out;subst bv)|((with_reducible refine gate_callee (f:=164) rfl ?_);refine kgl (some 12) rfl rfl Tryz.func164 #[.slice Ao21 ad.length co21] rfl ?_;(with_reducible refine(nat_long.calls k _ _ ad false _ ?side1 ?side2 A4.out).mono ?_);(case side1=>repeat (first|exact(Kd.N_reads' HO698.out).2.2|(with_reducible refine Kd.C_alloc ?_ _)|(with_reducible refine Kd.C_drewN ?_ _)|(with_reducible refine Kd.C_drew ?_)));(case side2=>exact(Kd.N_reads' HO698.out).2.1);rintro e w22 ⟨rfl,hb⟩;refine⟨_,rfl,?_⟩;replace HO0:=kvb HO0 hb;replace HO698:=Aside0.mk (Kd.N_below B0 hb);replace HB:=kbs HB hb;(try clear hb);(try clear hb2);(try clear hk);(try clear hi))|((with_reducible refine gate_callee (f:=96) rfl ?_);refine kgl (some 15) rfl rfl Tryz.func96 #[.slice A0 l0.length c0] rfl ?_;(with_reducible refine(nat_trim.calls k (fun k_=>((P0_ k_∨w.heap.size≤k_)∧some k_≠(.slice Ao21 ad.length co21:Value).ownBlock)) _ _ l0 ag _ ?side1 A10.out).mono ?_);(case side1=>exact HO0.out);rintro e w23 ⟨aT,rfl,ho0,hb⟩;refine⟨_,rfl,?_⟩;replace HO0:=kvb HO0 hb;have HO702:=Aside0.mk (Kd.V_lower (Kd.V_mono (ok':=fun k_=>(P0_ k_∨w.heap.size≤k_)∧some k_≠(.slice Ao21 ad.length co21:Value).ownBlock) ho0 (fun k_ hk_=>⟨Or.elim hk_ (fun hs_=>hs_.1) (fun hn_=>(.inr (Nat.le_trans (below_size (khu HB.out)) hn_))),Or.elim hk_ (fun hs_=>hs_.2) (fun hn_=>(Kd.fresh' (Kd.N_lt B0) k_ hn_))⟩)) (below_size (khu HB.out)));replace HO698:=Aside0.mk (Kd.N_below B0 hb);replace HB:=kbs HB hb;(try clear hb);(try clear hb2);(try clear hk);(try clear hi);(try clear ho0);obtain⟨bI,bJ,bw⟩:=Kd.V_slice HO702.out;subst bw))
  go_ret2
  exact⟨_,D0,F1,khu HB.out⟩
 rw[if_neg c18]at H
 have bl:decide (262144<a1)=false:=decide_eq_false c18
 clear c18
 obtain⟨aj,aq⟩:∃j_:Int,(wrap64 (Int.tdiv a1 64))=j_:=⟨_,rfl⟩
 replace H:(if 0≤(aj) then(if(aj:Int).toNat≤35184372088832 then((some (List.replicate (aj:Int).toNat 0:List Int)).bind fun ae=>((nat_trim.f k l0).bind fun af=>((nat_shl.f k af (IntKind.u64.wrap (Int.tmod a1 64))).bind fun aa=>(if ae.length+aa.length<17592186044416 then((nat_out.f k (ae++aa)).bind fun ab=>(some (ab.1,ab.2))) else(none))))) else(none)) else(none))=some (r1,r2):=by first|(rw[aq]at H;exact H)|(simp only[aq]at H ⊢;exact H)
 (try rw[aq]at A4)
 (try rw[aq]at A10)
 have bA:(IntKind.i64.wrap (Int.tdiv a1 64))=aj:=(i64_w _).trans aq
 by_cases c26:0≤(aj)
 ·rw [if_pos c26]at H
  have bC:=eq_true c26
  have bD:decide (0≤(aj))=true:=decide_eq_true c26
  clear c26
  by_cases c27:(aj:Int).toNat≤35184372088832
  ·rw [if_pos c27]at H
   have bE:=eq_true c27
   have bF:decide ((aj:Int).toNat≤35184372088832)=true:=decide_eq_true c27
   clear c27
   obtain⟨ae,av⟩:∃y_:List Int,y_=(List.replicate (aj:Int).toNat 0):=⟨_,rfl⟩
   replace H:((nat_trim.f k l0).bind fun af=>((nat_shl.f k af (IntKind.u64.wrap (Int.tmod a1 64))).bind fun aa=>(if ae.length+aa.length<17592186044416 then((nat_out.f k (ae++aa)).bind fun ab=>(some (ab.1,ab.2))) else(none))))=some (r1,r2):=by first|(rw[av];with_reducible exact H)|(have H2_:=(Option.bind_some _ _).symm.trans H;rw[av];with_reducible exact H2_)|(have H2_:=(Option.bind_some _ _).symm.trans H;with_reducible exact H2_)|with_reducible exact H|(rw[av];exact H)|exact H
   have ar:=Aside0.mk av
   clear av
   replace H:=Option.bind_eq_some_iff.mp H
   obtain⟨af,aU,H⟩:=H
   replace H:((nat_shl.f k af (IntKind.u64.wrap (Int.tmod a1 64))).bind fun aa=>(if ae.length+aa.length<17592186044416 then((nat_out.f k (ae++aa)).bind fun ab=>(some (ab.1,ab.2))) else(none)))=some (r1,r2):=H
   have A28:=Aside0.mk aU
   clear aU
   replace H:=Option.bind_eq_some_iff.mp H
   obtain⟨aa,aV,H⟩:=H
   replace H:(if ae.length+aa.length<17592186044416 then((nat_out.f k (ae++aa)).bind fun ab=>(some (ab.1,ab.2))) else(none))=some (r1,r2):=H
   have A29:=Aside0.mk aV
   clear aV
   by_cases c30:ae.length+aa.length<17592186044416
   ·rw [if_pos c30]at H
    have bn:=Aside0.mk c30
    clear c30
    obtain⟨aJ,aw⟩:∃y_:List Int,y_=(ae++aa):=⟨_,rfl⟩
    replace H:((nat_out.f k aJ).bind fun ab=>(some (ab.1,ab.2)))=some (r1,r2):=by first|(rw[aw];with_reducible exact H)|(have H2_:=(Option.bind_some _ _).symm.trans H;rw[aw];with_reducible exact H2_)|(have H2_:=(Option.bind_some _ _).symm.trans H;with_reducible exact H2_)|with_reducible exact H|(rw[aw];exact H)|exact H
    have bo:=Aside0.mk aw
    clear aw
    replace H:=Option.bind_eq_some_iff.mp H
    obtain⟨⟨aW,aX⟩,aY,H⟩:=H
    replace H:(some (aW,aX))=some (r1,r2):=H
    have A31:=Aside0.mk aY
    clear aY
    simp only[Option.some.injEq,Prod.mk.injEq]at H
    obtain⟨rfl,rfl⟩:=H
    go_enter Tryz.func148,Tryz.ntmps148
    try go_wp2_with (first|(refine gd 11 rfl ?_;refine Kd.N_lit (Kd.slice 48 (Kd.int .u64)) _ 26 ?hg (N':=11) ?hd (xs:=([l0]:List (List Int))) (inner:=[.slice A0 l0.length c0]) (ok:=(fun k_=>(P0_ k_∨w.heap.size≤k_))) (okp:=(fun k_=>(P0_ k_∨w.heap.size≤k_))) ?hr ?hp (fun _ hk=>hk) ((show ∀k_,w.heap.size≤k_→(fun k_=>(P0_ k_∨w.heap.size≤k_)) k_ from fun k_ hk=>(.inr (Nat.le_trans (below_size (khu HB.out)) hk))) _ (Nat.le_refl _)) (Below.refl _ _) (Nat.le_refl _) Z1 ?_;(case hd=>rfl);(case hg=>rfl);(case hr=>first|(go_simp;done)|(go_simp;rfl));(case hp=>exact(Reps.one (show Kd.FK (Kd.slice 48 (Kd.int .u64)) _ _ l0 [.slice A0 l0.length c0] from(Kd.FK_slice_mk (Kd.V_reads' (Kd.V_mono (ok':=(fun k_=>(P0_ k_∨w.heap.size≤k_))) (HO0.out) (fun k_ hk=>hk))).2.1 (Kd.V_F (Kd.V_mono (ok':=(fun k_=>(P0_ k_∨w.heap.size≤k_))) (HO0.out) (fun k_ hk=>hk))))) (Reps.none _ _)));intro aK w32 aC hb hg_ hnew_;clear hg_ hnew_;(first|rw[←am.out]at aC|(simp only[Int.reduceToNat]at aC;rw[←am.out]at aC));replace HO0:=Aside0.mk (Kd.V_elder' (kvu HO0.out) (Kd.N_base aC) hb);have HO698:=Aside0.mk (Kd.N_lower aC (below_size (khu HB.out)));replace HB:=kbs HB hb;clear hb aC;obtain⟨ah,ai,bx⟩:=Kd.N_slice HO698.out;subst bx)|((with_reducible refine gate_callee (f:=164) rfl ?_);refine kgl (some 12) rfl rfl Tryz.func164 #[.slice ah ad.length ai] rfl ?_;(with_reducible refine(nat_long.calls k _ _ ad false _ ?side1 ?side2 A4.out).mono ?_);(case side1=>repeat (first|exact(Kd.N_reads' HO698.out).2.2|(with_reducible refine Kd.C_alloc ?_ _)|(with_reducible refine Kd.C_drewN ?_ _)|(with_reducible refine Kd.C_drew ?_)));(case side2=>exact(Kd.N_reads' HO698.out).2.1);rintro e w35 ⟨rfl,hb⟩;refine⟨_,rfl,?_⟩;replace HO0:=kvb HO0 hb;replace HO698:=Aside0.mk (Kd.N_below B0 hb);replace HB:=kbs HB hb;(try clear hb);(try clear hb2);(try clear hk);(try clear hi))|((with_reducible refine gate_callee (f:=96) rfl ?_);refine kgl (some 15) rfl rfl Tryz.func96 #[.slice A0 l0.length c0] rfl ?_;(with_reducible refine(nat_trim.calls k (fun k_=>((P0_ k_∨w.heap.size≤k_)∧some k_≠(.slice ah ad.length ai:Value).ownBlock)) _ _ l0 ag _ ?side1 A10.out).mono ?_);(case side1=>exact HO0.out);rintro e w36 ⟨aT,rfl,ho0,hb⟩;refine⟨_,rfl,?_⟩;replace HO0:=kvb HO0 hb;have HO702:=Aside0.mk (Kd.V_lower (Kd.V_mono (ok':=fun k_=>(P0_ k_∨w.heap.size≤k_)∧some k_≠(.slice ah ad.length ai:Value).ownBlock) ho0 (fun k_ hk_=>⟨Or.elim hk_ (fun hs_=>hs_.1) (fun hn_=>(.inr (Nat.le_trans (below_size (khu HB.out)) hn_))),Or.elim hk_ (fun hs_=>hs_.2) (fun hn_=>(Kd.fresh' (Kd.N_lt B0) k_ hn_))⟩)) (below_size (khu HB.out)));replace HO698:=Aside0.mk (Kd.N_below B0 hb);replace HB:=kbs HB hb;(try clear hb);(try clear hb2);(try clear hk);(try clear hi);(try clear ho0);obtain⟨aZ,bb,bz⟩:=Kd.V_slice HO702.out;subst bz))
    replace HO0:=Aside0.mk (Kd.V_drew HO0.out);replace HO698:=Aside0.mk (Kd.N_drew HO698.out);replace HO702:=Aside0.mk (Kd.V_drew HO702.out);replace HB:=Aside0.mk (below_drew1 HB.out)
    refine start_ (n:=15) (S:=fun w'=>True) (ds:=[]) (bm_ 15 0) Y0 rfl rfl trivial (fun hHeld=>?_);refine with_tabW nat_Shl.tab9 nat_Shl.bits9 (fun HT_ HW_=>?_)
    generalize w36.drew=w38 at HO0 HO698 HO702 HB hHeld ⊢
    refine pu_ 0 21 ?_ (bm_ 15 1) rfl rfl (any_of HT_.out Y0) (fun _ _ _ h=>h) F0 ?_ ?_ ?_ ?_
    rotate_left
    ·intro w'
     go_simp
     with_reducible rfl
    rotate_left
    ·simp only[Act.put,kss,i64_w,i32_w]
     rfl
    refine pu_ 1 22 ?_ (bm_ 15 3) rfl rfl (any_of HT_.out Y0) (fun _ _ _ h=>h) F0 ?_ ?_ ?_ ?_
    rotate_left
    ·intro w'
     go_simp
     with_reducible rfl
    rotate_left
    ·simp only[Act.put,kss,i64_w,i32_w]
     rfl
    refine pu_ 3 24 ?_ (bm_ 15 11) rfl rfl (any_of HT_.out Y0) (fun _ _ _ h=>h) F0 ?_ ?_ ?_ ?_
    rotate_left
    ·intro w'
     go_simp
     with_reducible rfl
    rotate_left
    ·simp only[Act.put,kss,i64_w,i32_w]
     rfl
    refine pu_ 5 26 ?_ (bm_ 15 43) rfl rfl (any_of HT_.out Y0) (fun _ _ _ h=>h) F0 ?_ ?_ ?_ ?_
    rotate_left
    ·intro w'
     go_simp
     with_reducible rfl
    rotate_left
    ·simp only[Act.put,kss,i64_w,i32_w]
     rfl
    refine pu_ 6 27 ?_ (bm_ 15 107) rfl rfl (any_of HT_.out Y0) (fun _ _ _ h=>h) F0 ?_ ?_ ?_ ?_
    rotate_left
    ·intro w'
     go_simp
     with_reducible rfl
    rotate_left
    ·simp only[Act.put,kss,i64_w,i32_w]
     rfl
    refine pu_ 7 28 ?_ (bm_ 15 235) rfl rfl (any_of HT_.out Y0) (fun _ _ _ h=>h) F0 ?_ ?_ ?_ ?_
    rotate_left
    ·intro w'
     go_simp
     with_reducible rfl
    rotate_left
    ·simp only[Act.put,kss,i64_w,i32_w]
     rfl
    refine join_ (σ:=Value×Value×Value) 6 (bm_ 15 511) (fun s_=>[(23,s_.1),(25,s_.2.1),(29,s_.2.2)]) (fun s_ w'=>(Kd.V (Kd.int .u64) 48 w' w.heap.size (fun k_=>(P0_ k_∨w.heap.size≤k_)∧some k_≠(.slice ah ad.length ai:Value).ownBlock∧some k_≠(s_.1:Value).ownBlock∧some k_≠(s_.2.2:Value).ownBlock) (.slice A0 l0.length c0) l0)∧(Kd.N (Kd.slice 48 (Kd.int .u64)) 26 w' w.heap.size (fun k_=>(P0_ k_∨w.heap.size≤k_)∧some k_≠(s_.1:Value).ownBlock∧some k_≠(s_.2.2:Value).ownBlock) (.slice ah ad.length ai) ad)∧(Kd.V (Kd.int .u64) 48 w' w.heap.size (fun k_=>(P0_ k_∨w.heap.size≤k_)∧some k_≠(.slice ah ad.length ai:Value).ownBlock∧some k_≠(s_.1:Value).ownBlock∧some k_≠(s_.2.2:Value).ownBlock) (.slice aZ ag.length bb) ag)∧(Kd.R (Kd.int .u64) 48 w' w.heap.size (fun k_=>(w.heap.size≤k_)∧some k_≠(s_.2.2:Value).ownBlock) s_.1 ae)∧(Kd.V (Kd.int .u64) 48 w' w.heap.size (fun k_=>(P0_ k_∨w.heap.size≤k_)∧some k_≠(.slice ah ad.length ai:Value).ownBlock∧some k_≠(s_.1:Value).ownBlock∧some k_≠(s_.2.2:Value).ownBlock) s_.2.1 af)∧(Kd.R (Kd.int .u64) 48 w' w.heap.size (fun k_=>(w.heap.size≤k_)∧some k_≠(s_.1:Value).ownBlock) s_.2.2 aa)∧(Below w.heap.size w w')) ?_ ?_
    rotate_left
    ·intro hCont
     refine two_ (i:=2) (j:=4) (Ni:=some 23) (Nj:=some 25) (bm_ 15 239) (bm_ 15 251) rfl rfl rfl rfl (two_of HT_.out Y0) X0 X0 (fun K hK=>?_) (fun K hK=>?_)
     ·skip
      refine Kd.R_make_step (Kd.int .u64) _ 48 F0 (N:=23) rfl 26 _ _ rfl aj rfl rfl Tryz.underlying26 (.int .u64 0) 8 info48 rfl X0 Z0 0 (ok:=fun _=>True) (okp:=fun _=>True) rfl (fun _ hk=>hk) trivial (of_decide_eq_true ‹_›) (Nat.le_trans (Nat.mul_le_mul_right _ (of_decide_eq_true ‹_›:aj.toNat≤35184372088832)) Z0) (Below.refl _ _) (Nat.le_refl _) ?_
      intro ak w39 ap hb hg_ hnew_
      clear hg_ hnew_
      (first|rw[←ar.out]at ap|(simp only[Int.reduceToNat]at ap;rw[←ar.out]at ap))
      replace HO0:=Aside0.mk (Kd.V_elder' (kvu HO0.out) (Kd.R_base ap) hb);replace HO698:=Aside0.mk (Kd.N_elder' B0 (Kd.R_base ap) hb);replace HO702:=Aside0.mk (Kd.V_elder' (kvu HO702.out) (Kd.R_base ap) hb);have HO705:=Aside0.mk (Kd.R_lower (Kd.R_newM (M:=fun k_=>(w.heap.size≤k_)) ap (below_size (khu HB.out)) (fun k_ h_=>h_)) (below_size (khu HB.out)));replace HB:=kbs HB hb
      clear hb ap
      refine hK.out _ _ trivial (fun hHeld=>?_)
      clear hK K
      refine norm_ (a':=?_) ?_ ?_
      rotate_left
      ·show Act.put _ (some 23) _=_
       simp only[Act.put,kss,i64_w,i32_w]
       rfl
      refine one_ (i:=4) (N:=some 25) (bm_ 15 255) rfl rfl (one_of HT_.out Y0) X0 (fun K hK=>?_)
      refine kgo Tryz.func96 #[.slice A0 l0.length c0] F0 rfl rfl ?_
      with_reducible refine(nat_trim.calls k (fun k_=>(((P0_ k_∨w.heap.size≤k_)∧some k_≠(.slice ah ad.length ai:Value).ownBlock)∧some k_≠(ak:Value).ownBlock)) _ _ l0 af _ ?side1 A28.out).mono ?_
      (case side1=>exact HO0.out)
      rintro e w41 ⟨aP,rfl,ho0,hb⟩
      refine⟨_,rfl,?_⟩
      replace HO0:=kvb HO0 hb;replace HO702:=kvb HO702 hb;have ac:=Aside0.mk (Kd.V_lower (Kd.V_mono (ok':=fun k_=>(P0_ k_∨w.heap.size≤k_)∧some k_≠(.slice ah ad.length ai:Value).ownBlock∧some k_≠(ak:Value).ownBlock) ho0 (fun k_ hk_=>⟨Or.elim hk_ (fun hs_=>hs_.1.1) (fun hn_=>(.inr (Nat.le_trans (below_size (khu HB.out)) hn_))),Or.elim hk_ (fun hs_=>hs_.1.2) (fun hn_=>(Kd.fresh' (Kd.N_lt B0) k_ hn_)),Or.elim hk_ (fun hs_=>hs_.2) (fun hn_=>(Kd.fresh' (Kd.R_lt (kru HO705.out)) k_ hn_))⟩)) (below_size (khu HB.out)));replace HO698:=Aside0.mk (Kd.N_below B0 hb);replace HO705:=krb HO705 hb;replace HB:=kbs HB hb
      (try clear hb);(try clear hb2);(try clear hk);(try clear hi);(try clear ho0)
      obtain⟨aD,aE,aG⟩:=Kd.V_slice ac.out
      (first|subst aG|(injection aG with f1_ f2_ f3_;have f4_:=f1_.symm;have f5_:=f3_.symm;clear f1_ f2_ f3_;subst f4_;subst f5_))
      refine hK.out _ _ trivial (fun hHeld=>?_)
      clear hK K
      refine norm_ (a':=?_) ?_ ?_
      rotate_left
      ·show Act.put _ (some 25) _=_
       simp only[Act.put,kss,i64_w,i32_w]
       rfl
      refine one_ (i:=8) (N:=some 29) (bm_ 15 511) rfl rfl (one_of HT_.out Y0) X0 (fun K hK=>?_)
      refine kgo Tryz.func166 #[.slice aD af.length aE,.int .u64 (IntKind.u64.wrap (Int.tmod a1 64))] F0 rfl rfl ?_
      with_reducible refine(nat_shl.calls k _ _ af (IntKind.u64.wrap (Int.tmod a1 64)) aa _ ?side1 ?side2 A29.out).mono ?_
      (case side1=>repeat (first|exact(Kd.V_reads' ac.out).2.2|(with_reducible refine Kd.C_alloc ?_ _)|(with_reducible refine Kd.C_drewN ?_ _)|(with_reducible refine Kd.C_drew ?_)))
      (case side2=>exact(Kd.V_reads' ac.out).2.1)
      rintro e w43 ⟨al,rfl,ho0,hb⟩
      refine⟨_,rfl,?_⟩
      replace HO0:=Aside0.mk (Kd.V_elder' (kvu HO0.out) (Kd.R_base ho0) hb);replace HO698:=Aside0.mk (Kd.N_elder' B0 (Kd.R_base ho0) hb);replace HO702:=Aside0.mk (Kd.V_elder' (kvu HO702.out) (Kd.R_base ho0) hb);replace ac:=Aside0.mk (Kd.V_elder' (kvu ac.out) (Kd.R_base ho0) hb);have HO711:=Aside0.mk (Kd.R_lower (Kd.R_new' (Kd.R_newM (M:=fun k_=>(w.heap.size≤k_)) ho0 (below_size (khu HB.out)) (fun k_ h_=>h_)) (Kd.R_lt (kru HO705.out))) (below_size (khu HB.out)));replace HO705:=Aside0.mk (Kd.R_elder' (kru HO705.out) (Kd.R_base ho0) hb);replace HB:=kbs HB hb
      (try clear hb);(try clear hb2);(try clear hk);(try clear hi);(try clear ho0)
      refine hK.out _ _ trivial (fun hHeld=>?_)
      clear hK K
      refine norm_ (a':=?_) ?_ ?_
      rotate_left
      ·show Act.put _ (some 29) _=_
       simp only[Act.put,kss,i64_w,i32_w]
       rfl
      exact norm_ F3 (hCont (ak,.slice aD af.length aE,al) _ ⟨V4,X5,X4,X3,(by(with_reducible repeat (first|apply Kd.V_alloc|apply Kd.V_drewN|apply Kd.V_drew));exact Kd.V_mono ac.out (fun _ hk=>⟨hk.1.1,⟨hk.1.2.1,⟨hk.1.2.2,hk.2⟩⟩⟩)),Y3,(khu HB.out)⟩)
     skip
     refine kgo Tryz.func96 #[.slice A0 l0.length c0] F0 rfl rfl ?_
     with_reducible refine(nat_trim.calls k (fun k_=>((P0_ k_∨w.heap.size≤k_)∧some k_≠(.slice ah ad.length ai:Value).ownBlock)) _ _ l0 af _ ?side1 A28.out).mono ?_
     (case side1=>exact HO0.out)
     rintro e w39 ⟨aP,rfl,ho0,hb⟩
     refine⟨_,rfl,?_⟩
     replace HO0:=kvb HO0 hb;replace HO702:=kvb HO702 hb;have ac:=Aside0.mk (Kd.V_lower (Kd.V_mono (ok':=fun k_=>(P0_ k_∨w.heap.size≤k_)∧some k_≠(.slice ah ad.length ai:Value).ownBlock) ho0 (fun k_ hk_=>⟨Or.elim hk_ (fun hs_=>hs_.1) (fun hn_=>(.inr (Nat.le_trans (below_size (khu HB.out)) hn_))),Or.elim hk_ (fun hs_=>hs_.2) (fun hn_=>(Kd.fresh' (Kd.N_lt B0) k_ hn_))⟩)) (below_size (khu HB.out)));replace HO698:=Aside0.mk (Kd.N_below B0 hb);replace HB:=kbs HB hb
     (try clear hb);(try clear hb2);(try clear hk);(try clear hi);(try clear ho0)
     refine hK.out _ _ trivial (fun hHeld=>?_)
     clear hK K
     refine norm_ (a':=?_) ?_ ?_
     rotate_left
     ·show Act.put _ (some 25) _=_
      simp only[Act.put,kss,i64_w,i32_w]
      rfl
     refine two_ (i:=2) (j:=8) (Ni:=some 23) (Nj:=some 29) (bm_ 15 255) (bm_ 15 507) rfl rfl rfl rfl (two_of HT_.out Y0) X0 X0 (fun K hK=>?_) (fun K hK=>?_)
     ·skip
      refine Kd.R_make_step (Kd.int .u64) _ 48 F0 (N:=23) rfl 26 _ _ rfl aj rfl rfl Tryz.underlying26 (.int .u64 0) 8 info48 rfl X0 Z0 0 (ok:=fun _=>True) (okp:=fun _=>True) rfl (fun _ hk=>hk) trivial (of_decide_eq_true ‹_›) (Nat.le_trans (Nat.mul_le_mul_right _ (of_decide_eq_true ‹_›:aj.toNat≤35184372088832)) Z0) (Below.refl _ _) (Nat.le_refl _) ?_
      intro ak w40 ao hb hg_ hnew_
      clear hg_ hnew_
      (first|rw[←ar.out]at ao|(simp only[Int.reduceToNat]at ao;rw[←ar.out]at ao))
      replace HO0:=Aside0.mk (Kd.V_elder' (kvu HO0.out) (Kd.R_base ao) hb);replace HO698:=Aside0.mk (Kd.N_elder' B0 (Kd.R_base ao) hb);replace HO702:=Aside0.mk (Kd.V_elder' (kvu HO702.out) (Kd.R_base ao) hb);replace ac:=Aside0.mk (Kd.V_elder' (kvu ac.out) (Kd.R_base ao) hb);have HO705:=Aside0.mk (Kd.R_lower (Kd.R_newM (M:=fun k_=>(w.heap.size≤k_)) ao (below_size (khu HB.out)) (fun k_ h_=>h_)) (below_size (khu HB.out)));replace HB:=kbs HB hb
      clear hb ao
      obtain⟨aD,aE,aG⟩:=Kd.V_slice ac.out
      (first|subst aG|(injection aG with f1_ f2_ f3_;have f4_:=f1_.symm;have f5_:=f3_.symm;clear f1_ f2_ f3_;subst f4_;subst f5_))
      refine hK.out _ _ trivial (fun hHeld=>?_)
      clear hK K
      refine norm_ (a':=?_) ?_ ?_
      rotate_left
      ·show Act.put _ (some 23) _=_
       simp only[Act.put,kss,i64_w,i32_w]
       rfl
      refine one_ (i:=8) (N:=some 29) (bm_ 15 511) rfl rfl (one_of HT_.out Y0) X0 (fun K hK=>?_)
      refine kgo Tryz.func166 #[.slice aD af.length aE,.int .u64 (IntKind.u64.wrap (Int.tmod a1 64))] F0 rfl rfl ?_
      with_reducible refine(nat_shl.calls k _ _ af (IntKind.u64.wrap (Int.tmod a1 64)) aa _ ?side1 ?side2 A29.out).mono ?_
      (case side1=>repeat (first|exact(Kd.V_reads' ac.out).2.2|(with_reducible refine Kd.C_alloc ?_ _)|(with_reducible refine Kd.C_drewN ?_ _)|(with_reducible refine Kd.C_drew ?_)))
      (case side2=>exact(Kd.V_reads' ac.out).2.1)
      rintro e w43 ⟨al,rfl,ho0,hb⟩
      refine⟨_,rfl,?_⟩
      replace HO0:=Aside0.mk (Kd.V_elder' (kvu HO0.out) (Kd.R_base ho0) hb);replace HO698:=Aside0.mk (Kd.N_elder' B0 (Kd.R_base ho0) hb);replace HO702:=Aside0.mk (Kd.V_elder' (kvu HO702.out) (Kd.R_base ho0) hb);replace ac:=Aside0.mk (Kd.V_elder' (kvu ac.out) (Kd.R_base ho0) hb);have HO711:=Aside0.mk (Kd.R_lower (Kd.R_new' (Kd.R_newM (M:=fun k_=>(w.heap.size≤k_)) ho0 (below_size (khu HB.out)) (fun k_ h_=>h_)) (Kd.R_lt (kru HO705.out))) (below_size (khu HB.out)));replace HO705:=Aside0.mk (Kd.R_elder' (kru HO705.out) (Kd.R_base ho0) hb);replace HB:=kbs HB hb
      (try clear hb);(try clear hb2);(try clear hk);(try clear hi);(try clear ho0)
      refine hK.out _ _ trivial (fun hHeld=>?_)
      clear hK K
      refine norm_ (a':=?_) ?_ ?_
      rotate_left
      ·show Act.put _ (some 29) _=_
       simp only[Act.put,kss,i64_w,i32_w]
       rfl
      exact norm_ F3 (hCont (ak,.slice aD af.length aE,al) _ ⟨V4,X5,X4,X3,(by(with_reducible repeat (first|apply Kd.V_alloc|apply Kd.V_drewN|apply Kd.V_drew));exact Kd.V_mono ac.out (fun _ hk=>⟨hk.1.1.1,⟨hk.1.1.2,⟨hk.1.2,hk.2⟩⟩⟩)),Y3,(khu HB.out)⟩)
     skip
     obtain⟨bc,bd,be⟩:=Kd.V_slice ac.out
     (first|subst be|(injection be with f1_ f2_ f3_;have f4_:=f1_.symm;have f5_:=f3_.symm;clear f1_ f2_ f3_;subst f4_;subst f5_))
     refine kgo Tryz.func166 #[.slice bc af.length bd,.int .u64 (IntKind.u64.wrap (Int.tmod a1 64))] F0 rfl rfl ?_
     with_reducible refine(nat_shl.calls k _ _ af (IntKind.u64.wrap (Int.tmod a1 64)) aa _ ?side1 ?side2 A29.out).mono ?_
     (case side1=>repeat (first|exact(Kd.V_reads' ac.out).2.2|(with_reducible refine Kd.C_alloc ?_ _)|(with_reducible refine Kd.C_drewN ?_ _)|(with_reducible refine Kd.C_drew ?_)))
     (case side2=>exact(Kd.V_reads' ac.out).2.1)
     rintro e w41 ⟨al,rfl,ho0,hb⟩
     refine⟨_,rfl,?_⟩
     replace HO0:=Aside0.mk (Kd.V_elder' (kvu HO0.out) (Kd.R_base ho0) hb);replace HO698:=Aside0.mk (Kd.N_elder' B0 (Kd.R_base ho0) hb);replace HO702:=Aside0.mk (Kd.V_elder' (kvu HO702.out) (Kd.R_base ho0) hb);replace ac:=Aside0.mk (Kd.V_elder' (kvu ac.out) (Kd.R_base ho0) hb);have HO711:=Aside0.mk (Kd.R_lower (Kd.R_newM (M:=fun k_=>(w.heap.size≤k_)) ho0 (below_size (khu HB.out)) (fun k_ h_=>h_)) (below_size (khu HB.out)));replace HB:=kbs HB hb
     (try clear hb);(try clear hb2);(try clear hk);(try clear hi);(try clear ho0)
     refine hK.out _ _ trivial (fun hHeld=>?_)
     clear hK K
     refine norm_ (a':=?_) ?_ ?_
     rotate_left
     ·show Act.put _ (some 29) _=_
      simp only[Act.put,kss,i64_w,i32_w]
      rfl
     refine one_ (i:=2) (N:=some 23) (bm_ 15 511) rfl rfl (one_of HT_.out Y0) X0 (fun K hK=>?_)
     refine Kd.R_make_step (Kd.int .u64) _ 48 F0 (N:=23) rfl 26 _ _ rfl aj rfl rfl Tryz.underlying26 (.int .u64 0) 8 info48 rfl X0 Z0 0 (ok:=fun _=>True) (okp:=fun _=>True) rfl (fun _ hk=>hk) trivial (of_decide_eq_true ‹_›) (Nat.le_trans (Nat.mul_le_mul_right _ (of_decide_eq_true ‹_›:aj.toNat≤35184372088832)) Z0) (Below.refl _ _) (Nat.le_refl _) ?_
     intro ak w42 an hb hg_ hnew_
     clear hg_ hnew_
     (first|rw[←ar.out]at an|(simp only[Int.reduceToNat]at an;rw[←ar.out]at an))
     replace HO0:=Aside0.mk (Kd.V_elder' (kvu HO0.out) (Kd.R_base an) hb);replace HO698:=Aside0.mk (Kd.N_elder' B0 (Kd.R_base an) hb);replace HO702:=Aside0.mk (Kd.V_elder' (kvu HO702.out) (Kd.R_base an) hb);replace ac:=Aside0.mk (Kd.V_elder' (kvu ac.out) (Kd.R_base an) hb);have HO705:=Aside0.mk (Kd.R_lower (Kd.R_new' (Kd.R_newM (M:=fun k_=>(w.heap.size≤k_)) an (below_size (khu HB.out)) (fun k_ h_=>h_)) (Kd.R_lt (kru HO711.out))) (below_size (khu HB.out)));replace HO711:=Aside0.mk (Kd.R_elder' (kru HO711.out) (Kd.R_base an) hb);replace HB:=kbs HB hb
     clear hb an
     refine hK.out _ _ trivial (fun hHeld=>?_)
     clear hK K
     refine norm_ (a':=?_) ?_ ?_
     rotate_left
     ·show Act.put _ (some 23) _=_
      simp only[Act.put,kss,i64_w,i32_w]
      rfl
     exact norm_ F3 (hCont (ak,.slice bc af.length bd,al) _ ⟨(by(with_reducible repeat (first|apply Kd.V_alloc|apply Kd.V_drewN|apply Kd.V_drew));exact Kd.V_mono HO0.out (fun _ hk=>⟨hk.1.1.1,⟨hk.1.1.2,⟨hk.2,hk.1.2⟩⟩⟩)),(by(with_reducible repeat (first|apply Kd.N_alloc|apply Kd.N_drewN|apply Kd.N_drew));exact Kd.N_mono HO698.out (fun _ hk=>⟨hk.1.1,⟨hk.2,hk.1.2⟩⟩)),(by(with_reducible repeat (first|apply Kd.V_alloc|apply Kd.V_drewN|apply Kd.V_drew));exact Kd.V_mono HO702.out (fun _ hk=>⟨hk.1.1.1,⟨hk.1.1.2,⟨hk.2,hk.1.2⟩⟩⟩)),X3,(by(with_reducible repeat (first|apply Kd.V_alloc|apply Kd.V_drewN|apply Kd.V_drew));exact Kd.V_mono ac.out (fun _ hk=>⟨hk.1.1.1,⟨hk.1.1.2,⟨hk.2,hk.1.2⟩⟩⟩)),Y3,(khu HB.out)⟩)
    rintro⟨ak,aP,al⟩ w44 ⟨h0_,h1_,h2_,h3_,h4_,h5_,h6_⟩
    have n0_:Aside0 (Kd.V (Kd.int .u64) 48 w44 w.heap.size (fun k_=>(P0_ k_∨w.heap.size≤k_)∧some k_≠(.slice ah ad.length ai:Value).ownBlock∧some k_≠(ak:Value).ownBlock∧some k_≠(al:Value).ownBlock) (.slice A0 l0.length c0) l0):=⟨h0_⟩
    have n1_:Aside0 (Kd.N (Kd.slice 48 (Kd.int .u64)) 26 w44 w.heap.size (fun k_=>(P0_ k_∨w.heap.size≤k_)∧some k_≠(ak:Value).ownBlock∧some k_≠(al:Value).ownBlock) (.slice ah ad.length ai) ad):=⟨h1_⟩
    have n2_:Aside0 (Kd.V (Kd.int .u64) 48 w44 w.heap.size (fun k_=>(P0_ k_∨w.heap.size≤k_)∧some k_≠(.slice ah ad.length ai:Value).ownBlock∧some k_≠(ak:Value).ownBlock∧some k_≠(al:Value).ownBlock) (.slice aZ ag.length bb) ag):=⟨h2_⟩
    have n3_:Aside0 (Kd.R (Kd.int .u64) 48 w44 w.heap.size (fun k_=>(w.heap.size≤k_)∧some k_≠(al:Value).ownBlock) ak ae):=⟨h3_⟩
    have n4_:Aside0 (Kd.V (Kd.int .u64) 48 w44 w.heap.size (fun k_=>(P0_ k_∨w.heap.size≤k_)∧some k_≠(.slice ah ad.length ai:Value).ownBlock∧some k_≠(ak:Value).ownBlock∧some k_≠(al:Value).ownBlock) aP af):=⟨h4_⟩
    have n5_:Aside0 (Kd.R (Kd.int .u64) 48 w44 w.heap.size (fun k_=>(w.heap.size≤k_)∧some k_≠(ak:Value).ownBlock) al aa):=⟨h5_⟩
    have n6_:Aside0 (Below w.heap.size w w44):=⟨h6_⟩
    clear HO0
    clear HO698
    clear HO702
    clear HB
    clear h0_ h1_ h2_ h3_ h4_ h5_ h6_
    have HO0:=n0_
    have HO698:=n1_
    have HO702:=n2_
    have HO705:=n3_
    have ac:=n4_
    have HO711:=n5_
    have HB:=n6_
    clear n0_ n1_ n2_ n3_ n4_ n5_ n6_
    have hHeld:=trivial
    obtain⟨aH,aI,bf⟩:=Kd.R_slice HO711.out
    (first|subst bf|(injection bf with f1_ f2_ f3_;have f4_:=f1_.symm;have f5_:=f3_.symm;clear f1_ f2_ f3_;subst f4_;subst f5_))
    refine norm_ (a':=?_) ?_ ?_
    rotate_left
    ·simp only[putAll,Act.put,kss]
     rfl
    refine one_ (i:=9) (N:=some 30) (bm_ 15 1023) rfl rfl (one_of HT_.out Y0) X0 (fun K hK=>?_)
    refine Kd.R_append_rows_step (Kd.int .u64) (w0:=w) w.heap.size F0 (.tmp 23) (.tmp 29) 26 48 (.int .u64 0) 8 rfl Tryz.underlying26 info48 rfl X0 Z0 ak ae aa _ _ _ (fun k_=>(w.heap.size≤k_)∧some k_≠(.slice aH aa.length aI:Value).ownBlock) (fun _=>False) rfl rfl ?aO ?aR (fun _ _ h=>h) (fun _ h=>h.elim) ?aF ?aB ?aS ?aL ?_
    (case aR=>repeat (first|exact(Kd.R_reads' HO711.out).2.2|(with_reducible refine Kd.C_alloc ?_ _)|(with_reducible refine Kd.C_drewN ?_ _)|(with_reducible refine Kd.C_drew ?_)))
    (case aB=>exact(khu HB.out))
    (case aF=>exact(fun k_ hk=>⟨(Nat.le_trans (below_size (khu HB.out)) hk),Kd.fresh' (Kd.R_lt (kru HO711.out)) k_ hk⟩))
    (case aO=>exact(kru HO705.out))
    (case aS=>exact(below_size (khu HB.out)))
    (case aL=>have:=bn.out;omega)
    intro bK w45 ho hb hg hat
    rw[←bo.out]at ho
    replace HO0:=Aside0.mk (Kd.V_afterv (ok:=(fun k_=>(P0_ k_∨w.heap.size≤k_)∧some k_≠(.slice ah ad.length ai:Value).ownBlock∧some k_≠(.slice aH aa.length aI:Value).ownBlock)) (by(with_reducible repeat (first|apply Kd.V_alloc|apply Kd.V_drewN|apply Kd.V_drew));exact Kd.V_mono HO0.out (fun _ hk=>⟨⟨hk.1,⟨hk.2.1,hk.2.2.2⟩⟩,hk.2.2.1⟩)) hg hat);replace HO698:=Aside0.mk (Kd.N_afterv (ok:=(fun k_=>(P0_ k_∨w.heap.size≤k_)∧some k_≠(.slice aH aa.length aI:Value).ownBlock)) (by(with_reducible repeat (first|apply Kd.N_alloc|apply Kd.N_drewN|apply Kd.N_drew));exact Kd.N_mono HO698.out (fun _ hk=>⟨⟨hk.1,hk.2.2⟩,hk.2.1⟩)) hg hat);replace HO702:=Aside0.mk (Kd.V_afterv (ok:=(fun k_=>(P0_ k_∨w.heap.size≤k_)∧some k_≠(.slice ah ad.length ai:Value).ownBlock∧some k_≠(.slice aH aa.length aI:Value).ownBlock)) (by(with_reducible repeat (first|apply Kd.V_alloc|apply Kd.V_drewN|apply Kd.V_drew));exact Kd.V_mono HO702.out (fun _ hk=>⟨⟨hk.1,⟨hk.2.1,hk.2.2.2⟩⟩,hk.2.2.1⟩)) hg hat);replace ac:=Aside0.mk (Kd.V_afterv (ok:=(fun k_=>(P0_ k_∨w.heap.size≤k_)∧some k_≠(.slice ah ad.length ai:Value).ownBlock∧some k_≠(.slice aH aa.length aI:Value).ownBlock)) (by(with_reducible repeat (first|apply Kd.V_alloc|apply Kd.V_drewN|apply Kd.V_drew));exact Kd.V_mono ac.out (fun _ hk=>⟨⟨hk.1,⟨hk.2.1,hk.2.2.2⟩⟩,hk.2.2.1⟩)) hg hat);replace HO711:=Aside0.mk (Kd.R_after (ok:=(fun k_=>(w.heap.size≤k_))) (kru HO711.out) hg hat);replace HB:=Aside0.mk (hb);have ax:=Aside0.mk (ho);clear HO705
    clear ho hb hg hat
    obtain⟨bg,bh,bi⟩:=Kd.R_slice ax.out
    (first|subst bi|(injection bi with f1_ f2_ f3_;have f4_:=f1_.symm;have f5_:=f3_.symm;clear f1_ f2_ f3_;subst f4_;subst f5_))
    refine hK.out _ _ trivial (fun hHeld=>?_)
    clear hK K
    refine norm_ (a':=?_) ?_ ?_
    rotate_left
    ·show Act.put _ (some 30) _=_
     simp only[Act.put,kss,i64_w,i32_w]
     rfl
    refine one_ (i:=10) (N:=some 31) (bm_ 15 2047) rfl rfl (one_of HT_.out Y0) X0 (fun K hK=>?_)
    refine kgo Tryz.func165 #[.slice bg aJ.length bh] F0 rfl rfl ?_
    with_reducible refine(nat_out.calls k (fun k_=>some k_=(.slice bg aJ.length bh:Value).ownBlock) _ _ aJ aW aX _ ?side1 A31.out).mono ?_
    (case side1=>exact Kd.R_V (Kd.R_tight rfl (Kd.R_apart' (ax.out) (Kd.N_typed HO698.out) X0)))
    rintro e w48 ⟨bL,rfl,ho0,hb⟩
    refine⟨_,rfl,?_⟩
    replace HO0:=Aside0.mk (Kd.V_elder' (kvu HO0.out) (Kd.R_base ho0) hb);replace HO698:=Aside0.mk (Kd.N_elder' B0 (Kd.R_base ho0) hb);replace HO702:=Aside0.mk (Kd.V_elder' (kvu HO702.out) (Kd.R_base ho0) hb);replace ac:=Aside0.mk (Kd.V_elder' (kvu ac.out) (Kd.R_base ho0) hb);have bp:=Aside0.mk (Kd.R_lower (Kd.R_new' (Kd.R_new' (Kd.R_newM (M:=fun k_=>(w.heap.size≤k_)) (Kd.R_mono (ok':=fun k_=>True) ho0 (fun _ hk_=>trivial)) (below_size (khu HB.out)) (fun k_ h_=>h_)) (Kd.R_lt (kru HO711.out))) (Kd.R_lt (kru ax.out))) (below_size (khu HB.out)));replace HO711:=Aside0.mk (Kd.R_elder' (kru HO711.out) (Kd.R_base ho0) hb);replace ax:=Aside0.mk (Kd.R_elder' (kru ax.out) (Kd.R_base ho0) hb);replace HB:=kbs HB hb
    (try clear hb);(try clear hb2);(try clear hk);(try clear hi);(try clear ho0)
    refine hK.out _ _ trivial (fun hHeld=>?_)
    clear hK K
    refine norm_ (a':=?_) ?_ ?_
    rotate_left
    ·show Act.put _ (some 31) _=_
     simp only[Act.put,kss,i64_w,i32_w]
     rfl
    refine pu_ 11 32 ?_ (bm_ 15 4095) rfl rfl (any_of HT_.out Y0) (fun _ _ _ h=>h) F0 ?_ ?_ ?_ ?_
    rotate_left
    ·intro w'
     go_simp
     with_reducible rfl
    rotate_left
    ·simp only[Act.put,kss,i64_w,i32_w]
     rfl
    refine pu_ 12 33 ?_ (bm_ 15 8191) rfl rfl (any_of HT_.out Y0) (fun _ _ _ h=>h) F0 ?_ ?_ ?_ ?_
    rotate_left
    ·intro w'
     go_simp
     with_reducible rfl
    rotate_left
    ·simp only[Act.put,kss,i64_w,i32_w]
     rfl
    refine pu_ 13 4 ?_ (bm_ 15 16383) rfl rfl (any_of HT_.out Y0) (fun _ _ _ h=>h) F0 ?_ ?_ ?_ ?_
    rotate_left
    ·intro w'
     go_simp
     with_reducible rfl
    rotate_left
    ·simp only[Act.put,kss,i64_w,i32_w]
     rfl
    refine pu_ 14 5 ?_ (bm_ 15 32767) rfl rfl (any_of HT_.out Y0) (fun _ _ _ h=>h) F0 ?_ ?_ ?_ ?_
    rotate_left
    ·intro w'
     go_simp
     with_reducible rfl
    rotate_left
    ·simp only[Act.put,kss,i64_w,i32_w]
     rfl
    refine done_ (done_of HT_.out Y0) ?_
    try go_wp2
    go_ret2
    exact⟨_,by first|rfl|(simp[errW_none,errW_some]<;>rfl)|(simp only[←aq];first|rfl|(simp[errW_none,errW_some]<;>rfl))|(simp[*,errW_none,errW_some]<;>rfl),by(with_reducible repeat (first|apply Kd.R_alloc|apply Kd.R_drewN|apply Kd.R_drew));exact Kd.R_mono bp.out (fun _ hk=>hk.1.1.1),khu HB.out⟩
   rw[if_neg c30]at H
   exact absurd H Z1
  rw[if_neg c27]at H
  exact absurd H Z1
 rw[if_neg c26]at H
 exact absurd H Z1
def bits_power.f (k:Nat) (a0:Int):Option (Bool×List Int):=(nat_Shl.f k (([1]:List Int)) a0).bind fun bt723=>(some (false,bt723.1))
theorem bits_power.mono:∀a0 k,LeO (bits_power.f k a0) (bits_power.f (k+1) a0):=by
 intro a0 k
 unfold bits_power.f
 repeat' first
   | (with_reducible exact nat_Shl.mono _ _ _)
   | (with_reducible exact LeO.refl _)
   | (with_reducible exact LeO.none _)
   | (with_reducible refine LeO.ite ?_ ?_)
   | (with_reducible refine LeO.bind ?_ (fun _=>?_))
   | exact nat_Shl.mono _ _ _
   | exact LeO.none _
   | refine LeO.ite ?_ ?_
   | refine LeO.bind ?_ (fun _=>?_)
theorem bits_power.calls (k:Nat) (a0:Int) (r1:Bool) (r2:List Int) (w:World) (h:bits_power.f k a0=some (r1,r2)) :
  Calls Tryz.prog 72 #[.int .i64 a0] w fun e w'=>∃v1_:Value,e=.returned (.agg #[.bool r1,v1_])∧Kd.R (Kd.int .u64) 48 w' w.heap.size (fun _=>True) v1_ r2∧Below w.heap.size w w':=by
 have aq:=Tryz.underlying43
 have HB:=Aside0.mk (Below.refl w.heap.size w)
 have H:((nat_Shl.f k (([1]:List Int)) a0).bind fun ae=>(some (false,ae.1)))=some (r1,r2):=h
 clear h
 obtain⟨af,ab⟩:∃y_:List Int,y_=(([1]:List Int)):=⟨_,rfl⟩
 replace H:((nat_Shl.f k af a0).bind fun ae=>(some (false,ae.1)))=some (r1,r2):=by first|(rw[ab];with_reducible exact H)|(have H2_:=(Option.bind_some _ _).symm.trans H;rw[ab];with_reducible exact H2_)|(have H2_:=(Option.bind_some _ _).symm.trans H;with_reducible exact H2_)|with_reducible exact H|(rw[ab];exact H)|exact H
 have ah:=Aside0.mk ab
 clear ab
 replace H:=Option.bind_eq_some_iff.mp H
 obtain⟨⟨ag,ak⟩,A20,H⟩:=H
 replace H:(some (false,ag))=some (r1,r2):=H
 have A2:=Aside0.mk A20
 clear A20
 simp only[Option.some.injEq,Prod.mk.injEq]at H
 obtain⟨rfl,rfl⟩:=H
 go_enter Tryz.func72,Tryz.ntmps72
 go_wp2_with (first|(refine gd 2 rfl ?_;refine kbe 2 #[.bool false,.slice none 0 0] 43 ?_;intro ac hg w3 hbox hb;have aa:=Aside0.mk (hbox);have ap:=kbz hg HB;have aj:=kbz hg HB;replace HB:=kbs HB hb;clear hb hbox hg)|(refine gd 6 rfl ?_;refine Kd.R_lit (Kd.int .u64) _ 48 ?hg (N:=6) ?hd (xs:=([1]:List Int)) (inner:=[.int .u64 1]) (ok:=fun _=>True) (okp:=fun _=>True) ?hr ?hp (fun _ hk=>hk) trivial (Below.refl _ _) (Nat.le_refl _) Z1 ?_;(case hd=>rfl);(case hg=>rfl);(case hr=>first|(go_simp;done)|(go_simp;rfl));(case hp=>exact(Reps.one (show Kd.M (Kd.int .u64) _ _ _ 1 [.int .u64 1] from rfl) (Reps.none _ _)));intro ar w4 ho5 hb hg_ hnew_;clear hg_ hnew_;(first|rw[←ah.out]at ho5|(simp only[Int.reduceToNat]at ho5;rw[←ah.out]at ho5));have ad:=Aside0.mk (Kd.R_lower ho5 (below_size (khu HB.out)));replace aa:=kbb aa hb;replace HB:=kbs HB hb;clear hb ho5;obtain⟨Ao6,co6,eo6⟩:=Kd.R_slice ad.out;subst eo6)|((with_reducible refine gate_callee (f:=148) rfl ?_);refine kgl (some 8) rfl rfl Tryz.func148 #[.slice Ao6 af.length co6,.int .i64 a0] rfl ?_;(with_reducible refine(nat_Shl.calls k (fun k_=>some k_=(.slice Ao6 af.length co6:Value).ownBlock) _ _ af a0 ag ak _ ?side1 A2.out).mono ?_);(case side1=>exact Kd.R_V (Kd.R_tight rfl (Kd.R_types (ad.out) aa.out X0)));rintro e w7 ⟨au,rfl,ho0,hb⟩;refine⟨_,rfl,?_⟩;have ai:=Aside0.mk (Kd.R_lower (Kd.R_new' (Kd.R_mono (ok':=fun k_=>True) ho0 (fun _ hk_=>trivial)) (Kd.R_lt (kru ad.out))) (below_size (khu HB.out)));replace ad:=Aside0.mk (Kd.R_elder' (kru ad.out) (Kd.R_base ho0) hb);replace aa:=kbb aa hb;replace HB:=kbs HB hb;(try clear hb);(try clear hb2);(try clear hk);(try clear hi);(try clear ho0);obtain⟨Ao8,co8,eo8⟩:=Kd.R_slice ai.out;subst eo8;have al:w7.cell? ⟨ac,0,none⟩=some (.bool false):=(blk_cell aa.out 0).trans rfl;have am:w7.cell? ⟨ac,1,none⟩=some (.slice none 0 0):=(blk_cell aa.out 1).trans rfl;have an:=blk_frozen aa.out 0;have ao:=blk_frozen aa.out 1))
 refine bodyPost_ret (results_cell_row rfl _ _ ac 43 #[.bool false,.slice Ao8 ag.length co8] (0,0) _ rfl (kpu #[.bool false,.slice none 0 0] 1 (kpu #[.bool false,.slice none 0 0] 0 (kbu aa.out))) Tryz.underlying43 rfl Y0) rfl ?_
 exact⟨_,D0,by(with_reducible repeat (first|apply Kd.R_alloc|apply Kd.R_drewN|apply Kd.R_drew));exact Kd.R_mono (Kd.R_far (p:=⟨ac,1,none⟩) (Kd.R_far (p:=⟨ac,0,none⟩) (Kd.R_types ai.out aa.out X0) (fun _ hk=>hk.2) (.bool false)) (fun _ hk=>hk.2) (.slice Ao8 ag.length co8)) (fun _ hk=>trivial),by repeat (first|(with_reducible first|exact HB.out|apply below_alloc|apply pw_below_drewN|apply below_drew1|refine below_set ?_ aj.out)|exact HB.out)⟩
def bits_of.f (k:Nat) (a0:Int) (a1_0:Bool) (l1_1:List Int):Option (Int×List Int):=(bits_power.f k a0).bind fun bt729=>((whole_DivMod.f k a1_0 l1_1 bt729.1 bt729.2).bind fun bt733=>(some (a0,bt733.2.2.2.1)))
theorem bits_of.mono:∀a0 a1 a2 k,LeO (bits_of.f k a0 a1 a2) (bits_of.f (k+1) a0 a1 a2):=by
 intro a0 a1 a2 k
 unfold bits_of.f
 repeat' first
   | (with_reducible exact bits_power.mono _ _)
   | (with_reducible exact whole_DivMod.mono _ _ _ _ _)
   | (with_reducible exact LeO.refl _)
   | (with_reducible exact LeO.none _)
   | (with_reducible refine LeO.ite ?_ ?_)
   | (with_reducible refine LeO.bind ?_ (fun _=>?_))
   | exact bits_power.mono _ _
   | exact whole_DivMod.mono _ _ _ _ _
   | exact LeO.none _
   | refine LeO.ite ?_ ?_
   | refine LeO.bind ?_ (fun _=>?_)
def bits_of.T1:Bool×List (List Nat×List Nat):=(true,[([],[]),([],[]),([1],[1]),([0,2,2],[0,2]),([3],[3]),([4],[4]),([4],[4]),([4],[4]),([],[]),([],[]),([8,5,3,0,1,2,3,4,5,8,9],[5,8]),([9,6,10,0,1,2,3,4,5,6,8,9,10],[6,9]),([7,11,0,1,2,3,4,5,6,7,8,9,10,11],[7])])
def bits_of.B1:List Nat:=[0,0,2,7,15,31,31,31,0,0,831,1919,4095]
theorem bits_of.tab1:rtab .any (opsOf Tryz.f34 1)=bits_of.T1:=by kernel_rfl
theorem bits_of.bits1:waitsOk bits_of.T1.2 bits_of.B1=true:=by kernel_rfl
theorem bits_of.calls (k:Nat) (a0:Int) (ab:Bool) (ac:Option Addr) (ad:Nat) (aa:List Int) (r1:Int) (r2:List Int) (w:World) (ae:Kd.C (Kd.int .u64) w ac aa.length aa) (af:aa.length≤ad) (h:bits_of.f k a0 ab aa=some (r1,r2)) :
  Calls Tryz.prog 34 #[.int .i64 a0,.agg #[.bool ab,.slice ac aa.length ad]] w fun e w'=>∃v1_:Value,e=.returned (.agg #[.int .i64 r1,v1_])∧Kd.R (Kd.int .u64) 48 w' w.heap.size (fun _=>True) v1_ r2∧Below w.heap.size w w':=by
 have au:=Tryz.underlying28
 have av:=Tryz.underlying43
 have K:=Kp.refl w
 replace K:=K.parV (Kd.V_mono (ok':=fun _=>True) (Kd.V_mk (e:=48) (base:=0) af (Kd.C_F (Kd.heap_int .u64) ae)) (fun _ h=>trivial))
 clear ae af
 try simp only[klv]at K
 rw[bits_of.f]at h
 go_enter Tryz.func34,Tryz.ntmps34
 go_wp2_with (first|(refine gd 3 rfl ?_;refine kbk 3 #[.bool ab,.slice ac aa.length ad] 43 K.u ?_;clear K;intro g1 W2 K)|(refine gd 4 rfl ?_;refine kbk 4 #[.int .i64 0,.slice none 0 0] 28 K.u ?_;clear K;intro g3 W4 K))
 replace h:=bindA h
 obtain⟨⟨z5,x6⟩,A7,h⟩:=h
 dsimp only at h
 replace h:=bindA h
 obtain⟨⟨z8,x9,z10,x11,n12⟩,A13,h⟩:=h
 dsimp only at h
 obtain⟨Bs,Vs,Os,hBs,hVs,hOs,K⟩:=K.abs
 have HS:Aside0 (∀l m o W,Kp w (Bs++l) m o W→W.cell? ⟨g1,0,none⟩=some (.bool ab)∧W.cell? ⟨g1,1,none⟩=some (.slice ac aa.length ad)):=⟨fun l m o W K=>by rw[hBs.out]at K;exact⟨K.cell 0 rfl 0 rfl,K.cell 0 rfl 1 rfl⟩⟩
 refine kpstart (n:=13) (ds:=[]) (S:=fun W=>W.cell? ⟨g1,0,none⟩=some (.bool ab)∧W.cell? ⟨g1,1,none⟩=some (.slice ac aa.length ad)) (bm_ 13 0) Y0 rfl rfl K (HS.out [] _ _) (fun W19 K hH=>?_)
 refine with_tabW bits_of.tab1 bits_of.bits1 (fun HT_ HW_=>?_)
 refine tk_ 0 9 ?_ (bm_ 13 1) rfl rfl (take_ofW HT_.out HW_.out Y0) (fun _ _ _ h=>h) F0 ?_ hH ?_ ?_ ?_
 rotate_left
 ·rintro w' ⟨s0,s1⟩
  go_simp
  with_reducible rfl
 rotate_left
 ·simp only[Act.put,kss,i64_w,i32_w]
  rfl
 refine pu_ 1 10 ?_ (bm_ 13 3) rfl rfl (any_of HT_.out Y0) (fun _ _ _ h=>h) F0 ?_ ?_ ?_ ?_
 rotate_left
 ·intro w'
  go_simp
  with_reducible rfl
 rotate_left
 ·simp only[Act.put,kss,i64_w,i32_w]
  rfl
 refine join_ (σ:=Value×Value×Value×Nat×Nat) 3 (bm_ 13 1023) (fun s=>[(11,.agg #[.bool z5,s.1]),(12,.tuple #[.agg #[.bool z8,s.2.1],.agg #[.bool z10,s.2.2.1],.int .i64 n12]),(8,.tuple #[.agg #[.bool z8,s.2.1],.agg #[.bool z10,s.2.2.1],.int .i64 n12]),(13,.agg #[.bool z8,s.2.1]),(14,.agg #[.bool z10,s.2.2.1]),(15,.int .i64 n12),(5,.pointer (some ⟨s.2.2.2.1,0,none⟩)),(6,.pointer (some ⟨s.2.2.2.2,0,none⟩))]) (fun s W=>Kp w (Bs++[(s.2.2.2.1,#[.bool false,.slice none 0 0],43),(s.2.2.2.2,#[.bool false,.slice none 0 0],43)]) (Vs++[⟨Kd.int .u64,48,s.1,x6,fun _=>False⟩,⟨Kd.int .u64,48,s.2.1,x9,fun _=>False⟩,⟨Kd.int .u64,48,s.2.2.1,x11,fun _=>False⟩]) (Os++[⟨Kd.int .u64,48,s.1,x6,fun _=>True⟩,⟨Kd.int .u64,48,s.2.1,x9,fun _=>True⟩,⟨Kd.int .u64,48,s.2.2.1,x11,fun _=>True⟩]) W) ?_ (fun J20=>?_)
 ·rintro⟨v14,v15,v16,g17,g18⟩ W K
  try dsimp only at K
  have hH:=HS.out _ _ _ _ K
  refine norm_ (a':=?_) ?_ ?_
  rotate_left
  ·try simp only[putAll,Act.put,kss]
   rfl
  obtain⟨P27,c28,e29⟩:=K.slice 1 (hv hVs rfl)
  subst e29
  obtain⟨P30,c31,e32⟩:=K.slice 2 (hv hVs rfl)
  subst e32
  obtain⟨P33,c34,e35⟩:=K.slice 3 (hv hVs rfl)
  subst e35
  rw[hBs.out,hVs.out,hOs.out]at K
  simp only[kls,klv]at K
  clear hBs hVs hOs HS hH
  refine ko2 (i:=10) (bm_ 13 2047) 2 (.bool z8) (.slice P30 x9.length c31) K rfl rfl rfl (one_of HT_.out Y0) X0 F0 (fun W K=>⟨K.cell 0 rfl 0 rfl,K.cell 0 rfl 1 rfl⟩) ?_
  clear K
  intro W36 K
  simp only[kls,klv]at K
  refine ko2 (i:=11) (bm_ 13 4095) 3 (.bool z10) (.slice P33 x11.length c34) K rfl rfl rfl (one_of HT_.out Y0) X0 F0 (fun W K=>⟨K.cell 0 rfl 0 rfl,K.cell 0 rfl 1 rfl⟩) ?_
  clear K
  intro W37 K
  simp only[kls,klv]at K
  refine pu_ 12 7 ?_ (bm_ 13 8191) rfl rfl (any_of HT_.out Y0) (fun _ _ _ h=>h) F0 ?_ ?_ ?_ ?_
  rotate_left
  ·intro w'
   go_simp
   with_reducible rfl
  rotate_left
  ·simp only[Act.put,kss,i64_w,i32_w]
   rfl
  refine done_ (done_of HT_.out Y0) ?_
  clear HT_ HW_
  simp only[Option.some.injEq,Prod.mk.injEq]at h
  obtain⟨rfl,rfl⟩:=h
  obtain⟨ua3,ub3⟩:=K.cell2 3 rfl
  go_wp2_with (first|(refine gs 28 4 19 rfl ?_;clear ua3 ub3;refine ks2 1 (.int .i64 a0) (.slice P33 x11.length c34) K.u rfl ?_;clear K;intro W38 K;simp only[kls,klv]at K))
  refine bodyPost_ret (results_single rfl (.cell g3 28 #[.int .i64 a0,.slice P33 x11.length c34] (0,0) _ rfl (K.u.heap 1 rfl) Tryz.underlying28 rfl Y0 .nil)) rfl ?_
  exact⟨_,rfl,K.u.R 2 rfl,K.u.below⟩
 refine join_ (σ:=Value×Value×Value×Nat×Nat) 4 (bm_ 13 767) (fun s=>[(11,.agg #[.bool z5,s.1]),(12,.tuple #[.agg #[.bool z8,s.2.1],.agg #[.bool z10,s.2.2.1],.int .i64 n12]),(8,.tuple #[.agg #[.bool z8,s.2.1],.agg #[.bool z10,s.2.2.1],.int .i64 n12]),(13,.agg #[.bool z8,s.2.1]),(14,.agg #[.bool z10,s.2.2.1]),(15,.int .i64 n12),(6,.pointer (some ⟨s.2.2.2.2,0,none⟩))]) (fun s W=>Kp w (Bs++[(s.2.2.2.2,#[.bool false,.slice none 0 0],43)]) (Vs++[⟨Kd.int .u64,48,s.1,x6,fun _=>False⟩,⟨Kd.int .u64,48,s.2.1,x9,fun _=>False⟩,⟨Kd.int .u64,48,s.2.2.1,x11,fun _=>False⟩]) (Os++[⟨Kd.int .u64,48,s.1,x6,fun _=>True⟩,⟨Kd.int .u64,48,s.2.1,x9,fun _=>True⟩,⟨Kd.int .u64,48,s.2.2.1,x11,fun _=>True⟩]) W) ?_ (fun J21=>?_)
 ·rintro⟨v14,v15,v16,g17,g18⟩ W K
  try dsimp only at K
  have hH:=HS.out _ _ _ _ K
  refine norm_ (a':=?_) ?_ ?_
  rotate_left
  ·try simp only[putAll,Act.put,kss]
   rfl
  refine one_ (i:=8) (N:=some 5) (bm_ 13 1023) rfl rfl (one_of HT_.out Y0) X0 (fun Kc hK=>?_)
  exact kbx #[.bool false,.slice none 0 0] 43 5 fun g17 hg W' hx hb=>hK.out _ _ (HS.out _ _ _ _ (K.boxI 0 (lb rfl) hg hx hb)) fun _=>knq (J20 (v14,v15,v16,g17,g18) _ (K.boxI 0 (lb rfl) hg hx hb))
 refine join_ (σ:=Value×Value×Value×Nat×Nat) 4 (bm_ 13 511) (fun s=>[(11,.agg #[.bool z5,s.1]),(12,.tuple #[.agg #[.bool z8,s.2.1],.agg #[.bool z10,s.2.2.1],.int .i64 n12]),(8,.tuple #[.agg #[.bool z8,s.2.1],.agg #[.bool z10,s.2.2.1],.int .i64 n12]),(13,.agg #[.bool z8,s.2.1]),(14,.agg #[.bool z10,s.2.2.1]),(15,.int .i64 n12),(5,.pointer (some ⟨s.2.2.2.1,0,none⟩))]) (fun s W=>Kp w (Bs++[(s.2.2.2.1,#[.bool false,.slice none 0 0],43)]) (Vs++[⟨Kd.int .u64,48,s.1,x6,fun _=>False⟩,⟨Kd.int .u64,48,s.2.1,x9,fun _=>False⟩,⟨Kd.int .u64,48,s.2.2.1,x11,fun _=>False⟩]) (Os++[⟨Kd.int .u64,48,s.1,x6,fun _=>True⟩,⟨Kd.int .u64,48,s.2.1,x9,fun _=>True⟩,⟨Kd.int .u64,48,s.2.2.1,x11,fun _=>True⟩]) W) ?_ (fun J22=>?_)
 ·rintro⟨v14,v15,v16,g17,g18⟩ W K
  try dsimp only at K
  have hH:=HS.out _ _ _ _ K
  refine norm_ (a':=?_) ?_ ?_
  rotate_left
  ·try simp only[putAll,Act.put,kss]
   rfl
  refine one_ (i:=9) (N:=some 6) (bm_ 13 1023) rfl rfl (one_of HT_.out Y0) X0 (fun Kc hK=>?_)
  exact kbx #[.bool false,.slice none 0 0] 43 6 fun g18 hg W' hx hb=>hK.out _ _ (HS.out _ _ _ _ (K.boxI 1 (lb rfl) hg hx hb)) fun _=>knq (J20 (v14,v15,v16,g17,g18) _ (K.boxI 1 (lb rfl) hg hx hb))
 refine join_ (σ:=Value×Value×Value×Nat×Nat) 8 (bm_ 13 775) (fun s=>[(11,.agg #[.bool z5,s.1]),(5,.pointer (some ⟨s.2.2.2.1,0,none⟩)),(6,.pointer (some ⟨s.2.2.2.2,0,none⟩))]) (fun s W=>Kp w (Bs++[(s.2.2.2.1,#[.bool false,.slice none 0 0],43),(s.2.2.2.2,#[.bool false,.slice none 0 0],43)]) (Vs++[⟨Kd.int .u64,48,s.1,x6,fun _=>False⟩]) (Os++[⟨Kd.int .u64,48,s.1,x6,fun _=>True⟩]) W) ?_ (fun J23=>?_)
 ·rintro⟨v14,v15,v16,g17,g18⟩ W K
  try dsimp only at K
  have hH:=HS.out _ _ _ _ K
  refine norm_ (a':=?_) ?_ ?_
  rotate_left
  ·try simp only[putAll,Act.put,kss]
   rfl
  refine one_ (i:=3) (N:=some 12) (bm_ 13 783) rfl rfl (one_of HT_.out Y0) X0 (fun Kc hK=>?_)
  obtain⟨P40,c41,e42⟩:=K.slice 1 (hv hVs rfl)
  subst e42
  refine kgo Tryz.func71 #[.agg #[.bool ab,.slice ac aa.length ad],.agg #[.bool z5,.slice P40 x6.length c41]] F0 rfl rfl ?_
  refine(whole_DivMod.calls _ ab _ _ aa z5 _ _ x6 z8 x9 z10 x11 n12 _ (K.C 0 (hv hVs rfl)) (K.le 0 (hv hVs rfl)) (K.C 1 (hv hVs rfl)) (K.le 1 (hv hVs rfl)) A13.out).mono ?_
  rintro e W' ⟨v15,v16,rfl,ag,ah,hb⟩
  replace K:=K.addR2I 1 1 hb ag ah (lb rfl)
  clear hb ag ah
  refine⟨_,rfl,hK.out _ _ (HS.out _ _ _ _ K) fun hH=>?_⟩
  refine norm_ (a':=?_) ?_ ?_
  rotate_left
  ·show Act.put _ (some 12) _=_
   simp only[Act.put,kss,i64_w,i32_w]
   rfl
  refine pu_ 4 8 ?_ (bm_ 13 799) rfl rfl (any_of HT_.out Y0) (fun _ _ _ h=>h) F0 ?_ ?_ ?_ ?_
  rotate_left
  ·intro w'
   go_simp
   with_reducible rfl
  rotate_left
  ·simp only[Act.put,kss,i64_w,i32_w]
   rfl
  refine pu_ 5 13 ?_ (bm_ 13 831) rfl rfl (any_of HT_.out Y0) (fun _ _ _ h=>h) F0 ?_ ?_ ?_ ?_
  rotate_left
  ·intro w'
   go_simp
   with_reducible rfl
  rotate_left
  ·simp only[Act.put,kss,i64_w,i32_w]
   rfl
  refine pu_ 6 14 ?_ (bm_ 13 895) rfl rfl (any_of HT_.out Y0) (fun _ _ _ h=>h) F0 ?_ ?_ ?_ ?_
  rotate_left
  ·intro w'
   go_simp
   with_reducible rfl
  rotate_left
  ·simp only[Act.put,kss,i64_w,i32_w]
   rfl
  refine pu_ 7 15 ?_ (bm_ 13 1023) rfl rfl (any_of HT_.out Y0) (fun _ _ _ h=>h) F0 ?_ ?_ ?_ ?_
  rotate_left
  ·intro w'
   go_simp
   with_reducible rfl
  rotate_left
  ·simp only[Act.put,kss,i64_w,i32_w]
   rfl
  exact knq (J20 (.slice P40 x6.length c41,v15,v16,g17,g18) _ K)
 refine join_ (σ:=Value×Value×Value×Nat×Nat) 9 (bm_ 13 771) (fun s=>[(5,.pointer (some ⟨s.2.2.2.1,0,none⟩)),(6,.pointer (some ⟨s.2.2.2.2,0,none⟩))]) (fun s W=>Kp w (Bs++[(s.2.2.2.1,#[.bool false,.slice none 0 0],43),(s.2.2.2.2,#[.bool false,.slice none 0 0],43)]) (Vs++[]) (Os++[]) W) ?_ (fun J24=>?_)
 ·rintro⟨v14,v15,v16,g17,g18⟩ W K
  try dsimp only at K
  have hH:=HS.out _ _ _ _ K
  refine norm_ (a':=?_) ?_ ?_
  rotate_left
  ·try simp only[putAll,Act.put,kss]
   rfl
  refine one_ (i:=2) (N:=some 11) (bm_ 13 775) rfl rfl (one_of HT_.out Y0) X0 (fun Kc hK=>?_)
  refine kgo Tryz.func72 #[.int .i64 a0] F0 rfl rfl ?_
  refine(bits_power.calls _ a0 z5 x6 _ A7.out).mono ?_
  rintro e W' ⟨v14,rfl,ai,hb⟩
  replace K:=K.addRI 0 0 hb ai (lb rfl)
  clear hb ai
  refine⟨_,rfl,hK.out _ _ (HS.out _ _ _ _ K) fun hH=>?_⟩
  exact knq (J23 (v14,v15,v16,g17,g18) _ K)
 refine join_ (σ:=Value×Value×Value×Nat×Nat) 9 (bm_ 13 519) (fun s=>[(11,.agg #[.bool z5,s.1]),(6,.pointer (some ⟨s.2.2.2.2,0,none⟩))]) (fun s W=>Kp w (Bs++[(s.2.2.2.2,#[.bool false,.slice none 0 0],43)]) (Vs++[⟨Kd.int .u64,48,s.1,x6,fun _=>False⟩]) (Os++[⟨Kd.int .u64,48,s.1,x6,fun _=>True⟩]) W) ?_ (fun J25=>?_)
 ·rintro⟨v14,v15,v16,g17,g18⟩ W K
  try dsimp only at K
  have hH:=HS.out _ _ _ _ K
  refine norm_ (a':=?_) ?_ ?_
  rotate_left
  ·try simp only[putAll,Act.put,kss]
   rfl
  refine two_ (i:=3) (j:=8) (Ni:=some 12) (Nj:=some 5) (bm_ 13 527) (bm_ 13 775) rfl rfl rfl rfl (two_of HT_.out Y0) X0 X0 (fun Kc hK=>?_) (fun Kc hK=>?_)
  ·obtain⟨P46,c47,e48⟩:=K.slice 1 (hv hVs rfl)
   subst e48
   refine kgo Tryz.func71 #[.agg #[.bool ab,.slice ac aa.length ad],.agg #[.bool z5,.slice P46 x6.length c47]] F0 rfl rfl ?_
   refine(whole_DivMod.calls _ ab _ _ aa z5 _ _ x6 z8 x9 z10 x11 n12 _ (K.C 0 (hv hVs rfl)) (K.le 0 (hv hVs rfl)) (K.C 1 (hv hVs rfl)) (K.le 1 (hv hVs rfl)) A13.out).mono ?_
   rintro e W' ⟨v15,v16,rfl,aj,ak,hb⟩
   replace K:=K.addR2I 1 1 hb aj ak (lb rfl)
   clear hb aj ak
   refine⟨_,rfl,hK.out _ _ (HS.out _ _ _ _ K) fun hH=>?_⟩
   refine norm_ (a':=?_) ?_ ?_
   rotate_left
   ·show Act.put _ (some 12) _=_
    simp only[Act.put,kss,i64_w,i32_w]
    rfl
   refine pu_ 4 8 ?_ (bm_ 13 543) rfl rfl (any_of HT_.out Y0) (fun _ _ _ h=>h) F0 ?_ ?_ ?_ ?_
   rotate_left
   ·intro w'
    go_simp
    with_reducible rfl
   rotate_left
   ·simp only[Act.put,kss,i64_w,i32_w]
    rfl
   refine pu_ 5 13 ?_ (bm_ 13 575) rfl rfl (any_of HT_.out Y0) (fun _ _ _ h=>h) F0 ?_ ?_ ?_ ?_
   rotate_left
   ·intro w'
    go_simp
    with_reducible rfl
   rotate_left
   ·simp only[Act.put,kss,i64_w,i32_w]
    rfl
   refine pu_ 6 14 ?_ (bm_ 13 639) rfl rfl (any_of HT_.out Y0) (fun _ _ _ h=>h) F0 ?_ ?_ ?_ ?_
   rotate_left
   ·intro w'
    go_simp
    with_reducible rfl
   rotate_left
   ·simp only[Act.put,kss,i64_w,i32_w]
    rfl
   refine pu_ 7 15 ?_ (bm_ 13 767) rfl rfl (any_of HT_.out Y0) (fun _ _ _ h=>h) F0 ?_ ?_ ?_ ?_
   rotate_left
   ·intro w'
    go_simp
    with_reducible rfl
   rotate_left
   ·simp only[Act.put,kss,i64_w,i32_w]
    rfl
   exact knq (J21 (.slice P46 x6.length c47,v15,v16,g17,g18) _ K)
  exact kbx #[.bool false,.slice none 0 0] 43 5 fun g17 hg W' hx hb=>hK.out _ _ (HS.out _ _ _ _ (K.boxI 0 (lb rfl) hg hx hb)) fun _=>knq (J23 (v14,v15,v16,g17,g18) _ (K.boxI 0 (lb rfl) hg hx hb))
 refine join_ (σ:=Value×Value×Value×Nat×Nat) 9 (bm_ 13 263) (fun s=>[(11,.agg #[.bool z5,s.1]),(5,.pointer (some ⟨s.2.2.2.1,0,none⟩))]) (fun s W=>Kp w (Bs++[(s.2.2.2.1,#[.bool false,.slice none 0 0],43)]) (Vs++[⟨Kd.int .u64,48,s.1,x6,fun _=>False⟩]) (Os++[⟨Kd.int .u64,48,s.1,x6,fun _=>True⟩]) W) ?_ (fun J26=>?_)
 ·rintro⟨v14,v15,v16,g17,g18⟩ W K
  try dsimp only at K
  have hH:=HS.out _ _ _ _ K
  refine norm_ (a':=?_) ?_ ?_
  rotate_left
  ·try simp only[putAll,Act.put,kss]
   rfl
  refine two_ (i:=3) (j:=9) (Ni:=some 12) (Nj:=some 6) (bm_ 13 271) (bm_ 13 775) rfl rfl rfl rfl (two_of HT_.out Y0) X0 X0 (fun Kc hK=>?_) (fun Kc hK=>?_)
  ·obtain⟨P51,c52,e53⟩:=K.slice 1 (hv hVs rfl)
   subst e53
   refine kgo Tryz.func71 #[.agg #[.bool ab,.slice ac aa.length ad],.agg #[.bool z5,.slice P51 x6.length c52]] F0 rfl rfl ?_
   refine(whole_DivMod.calls _ ab _ _ aa z5 _ _ x6 z8 x9 z10 x11 n12 _ (K.C 0 (hv hVs rfl)) (K.le 0 (hv hVs rfl)) (K.C 1 (hv hVs rfl)) (K.le 1 (hv hVs rfl)) A13.out).mono ?_
   rintro e W' ⟨v15,v16,rfl,al,am,hb⟩
   replace K:=K.addR2I 1 1 hb al am (lb rfl)
   clear hb al am
   refine⟨_,rfl,hK.out _ _ (HS.out _ _ _ _ K) fun hH=>?_⟩
   refine norm_ (a':=?_) ?_ ?_
   rotate_left
   ·show Act.put _ (some 12) _=_
    simp only[Act.put,kss,i64_w,i32_w]
    rfl
   refine pu_ 4 8 ?_ (bm_ 13 287) rfl rfl (any_of HT_.out Y0) (fun _ _ _ h=>h) F0 ?_ ?_ ?_ ?_
   rotate_left
   ·intro w'
    go_simp
    with_reducible rfl
   rotate_left
   ·simp only[Act.put,kss,i64_w,i32_w]
    rfl
   refine pu_ 5 13 ?_ (bm_ 13 319) rfl rfl (any_of HT_.out Y0) (fun _ _ _ h=>h) F0 ?_ ?_ ?_ ?_
   rotate_left
   ·intro w'
    go_simp
    with_reducible rfl
   rotate_left
   ·simp only[Act.put,kss,i64_w,i32_w]
    rfl
   refine pu_ 6 14 ?_ (bm_ 13 383) rfl rfl (any_of HT_.out Y0) (fun _ _ _ h=>h) F0 ?_ ?_ ?_ ?_
   rotate_left
   ·intro w'
    go_simp
    with_reducible rfl
   rotate_left
   ·simp only[Act.put,kss,i64_w,i32_w]
    rfl
   refine pu_ 7 15 ?_ (bm_ 13 511) rfl rfl (any_of HT_.out Y0) (fun _ _ _ h=>h) F0 ?_ ?_ ?_ ?_
   rotate_left
   ·intro w'
    go_simp
    with_reducible rfl
   rotate_left
   ·simp only[Act.put,kss,i64_w,i32_w]
    rfl
   exact knq (J22 (.slice P51 x6.length c52,v15,v16,g17,g18) _ K)
  exact kbx #[.bool false,.slice none 0 0] 43 6 fun g18 hg W' hx hb=>hK.out _ _ (HS.out _ _ _ _ (K.boxI 1 (lb rfl) hg hx hb)) fun _=>knq (J23 (v14,v15,v16,g17,g18) _ (K.boxI 1 (lb rfl) hg hx hb))
 obtain⟨v14,v15,v16,g17,g18⟩:Value×Value×Value×Nat×Nat:=((.bool false),(.bool false),(.bool false),0,0)
 refine three_ (i:=2) (j:=8) (k:=9) (Ni:=some 11) (Nj:=some 5) (Nk:=some 6) (bm_ 13 7) (bm_ 13 259) (bm_ 13 515) rfl rfl rfl rfl rfl rfl (three_of HT_.out Y0) X0 X0 X0 (fun Kc hK=>?_) (fun Kc hK=>?_) (fun Kc hK=>?_)
 ·refine kgo Tryz.func72 #[.int .i64 a0] F0 rfl rfl ?_
  refine(bits_power.calls _ a0 z5 x6 _ A7.out).mono ?_
  rintro e W' ⟨v14,rfl,an,hb⟩
  replace K:=K.addRI 0 0 hb an (lb rfl)
  clear hb an
  refine⟨_,rfl,hK.out _ _ (HS.out _ _ _ _ K) fun hH=>?_⟩
  clear hK Kc
  refine norm_ (a':=?_) ?_ ?_
  rotate_left
  ·show Act.put _ (some 11) _=_
   simp only[Act.put,kss,i64_w,i32_w]
   rfl
  refine three_ (i:=3) (j:=8) (k:=9) (Ni:=some 12) (Nj:=some 5) (Nk:=some 6) (bm_ 13 15) (bm_ 13 263) (bm_ 13 519) rfl rfl rfl rfl rfl rfl (three_of HT_.out Y0) X0 X0 X0 (fun Kc hK=>?_) (fun Kc hK=>?_) (fun Kc hK=>?_)
  ·obtain⟨P57,c58,e59⟩:=K.slice 1 (hv hVs rfl)
   subst e59
   refine kgo Tryz.func71 #[.agg #[.bool ab,.slice ac aa.length ad],.agg #[.bool z5,.slice P57 x6.length c58]] F0 rfl rfl ?_
   refine(whole_DivMod.calls _ ab _ _ aa z5 _ _ x6 z8 x9 z10 x11 n12 _ (K.C 0 (hv hVs rfl)) (K.le 0 (hv hVs rfl)) (K.C 1 (hv hVs rfl)) (K.le 1 (hv hVs rfl)) A13.out).mono ?_
   rintro e W' ⟨v15,v16,rfl,ao,ap,hb⟩
   replace K:=K.addR2I 1 1 hb ao ap (lb rfl)
   clear hb ao ap
   refine⟨_,rfl,hK.out _ _ (HS.out _ _ _ _ K) fun hH=>?_⟩
   refine norm_ (a':=?_) ?_ ?_
   rotate_left
   ·show Act.put _ (some 12) _=_
    simp only[Act.put,kss,i64_w,i32_w]
    rfl
   refine pu_ 4 8 ?_ (bm_ 13 31) rfl rfl (any_of HT_.out Y0) (fun _ _ _ h=>h) F0 ?_ ?_ ?_ ?_
   rotate_left
   ·intro w'
    go_simp
    with_reducible rfl
   rotate_left
   ·simp only[Act.put,kss,i64_w,i32_w]
    rfl
   refine pu_ 5 13 ?_ (bm_ 13 63) rfl rfl (any_of HT_.out Y0) (fun _ _ _ h=>h) F0 ?_ ?_ ?_ ?_
   rotate_left
   ·intro w'
    go_simp
    with_reducible rfl
   rotate_left
   ·simp only[Act.put,kss,i64_w,i32_w]
    rfl
   refine pu_ 6 14 ?_ (bm_ 13 127) rfl rfl (any_of HT_.out Y0) (fun _ _ _ h=>h) F0 ?_ ?_ ?_ ?_
   rotate_left
   ·intro w'
    go_simp
    with_reducible rfl
   rotate_left
   ·simp only[Act.put,kss,i64_w,i32_w]
    rfl
   refine pu_ 7 15 ?_ (bm_ 13 255) rfl rfl (any_of HT_.out Y0) (fun _ _ _ h=>h) F0 ?_ ?_ ?_ ?_
   rotate_left
   ·intro w'
    go_simp
    with_reducible rfl
   rotate_left
   ·simp only[Act.put,kss,i64_w,i32_w]
    rfl
   clear hK Kc
   refine two_ (i:=8) (j:=9) (Ni:=some 5) (Nj:=some 6) (bm_ 13 511) (bm_ 13 767) rfl rfl rfl rfl (two_of HT_.out Y0) X0 X0 (fun Kc hK=>?_) (fun Kc hK=>?_)
   ·exact kbx #[.bool false,.slice none 0 0] 43 5 fun g17 hg W' hx hb=>hK.out _ _ (HS.out _ _ _ _ (K.boxI 0 (lb rfl) hg hx hb)) fun _=>knq (J22 (.slice P57 x6.length c58,v15,v16,g17,g18) _ (K.boxI 0 (lb rfl) hg hx hb))
   exact kbx #[.bool false,.slice none 0 0] 43 6 fun g18 hg W' hx hb=>hK.out _ _ (HS.out _ _ _ _ (K.boxI 0 (lb rfl) hg hx hb)) fun _=>knq (J21 (.slice P57 x6.length c58,v15,v16,g17,g18) _ (K.boxI 0 (lb rfl) hg hx hb))
  ·exact kbx #[.bool false,.slice none 0 0] 43 5 fun g17 hg W' hx hb=>hK.out _ _ (HS.out _ _ _ _ (K.boxI 0 (lb rfl) hg hx hb)) fun _=>knq (J26 (v14,v15,v16,g17,g18) _ (K.boxI 0 (lb rfl) hg hx hb))
  exact kbx #[.bool false,.slice none 0 0] 43 6 fun g18 hg W' hx hb=>hK.out _ _ (HS.out _ _ _ _ (K.boxI 0 (lb rfl) hg hx hb)) fun _=>knq (J25 (v14,v15,v16,g17,g18) _ (K.boxI 0 (lb rfl) hg hx hb))
 ·refine kbx #[.bool false,.slice none 0 0] 43 5 fun g17 hg W' hx hb=>?_
  replace K:=K.boxI 0 (lb rfl) hg hx hb
  clear hg hx hb
  refine hK.out _ _ (HS.out _ _ _ _ K) fun hH=>?_
  clear hK Kc
  refine norm_ (a':=?_) ?_ ?_
  rotate_left
  ·show Act.put _ (some 5) _=_
   simp only[Act.put,kss,i64_w,i32_w]
   rfl
  refine two_ (i:=2) (j:=9) (Ni:=some 11) (Nj:=some 6) (bm_ 13 263) (bm_ 13 771) rfl rfl rfl rfl (two_of HT_.out Y0) X0 X0 (fun Kc hK=>?_) (fun Kc hK=>?_)
  ·refine kgo Tryz.func72 #[.int .i64 a0] F0 rfl rfl ?_
   refine(bits_power.calls _ a0 z5 x6 _ A7.out).mono ?_
   rintro e W' ⟨v14,rfl,aq,hb⟩
   replace K:=K.addRI 0 0 hb aq (lb rfl)
   clear hb aq
   refine⟨_,rfl,hK.out _ _ (HS.out _ _ _ _ K) fun hH=>?_⟩
   exact knq (J26 (v14,v15,v16,g17,g18) _ K)
  exact kbx #[.bool false,.slice none 0 0] 43 6 fun g18 hg W' hx hb=>hK.out _ _ (HS.out _ _ _ _ (K.boxI 1 (lb rfl) hg hx hb)) fun _=>knq (J24 (v14,v15,v16,g17,g18) _ (K.boxI 1 (lb rfl) hg hx hb))
 refine kbx #[.bool false,.slice none 0 0] 43 6 fun g18 hg W' hx hb=>?_
 replace K:=K.boxI 0 (lb rfl) hg hx hb
 clear hg hx hb
 refine hK.out _ _ (HS.out _ _ _ _ K) fun hH=>?_
 clear hK Kc
 refine norm_ (a':=?_) ?_ ?_
 rotate_left
 ·show Act.put _ (some 6) _=_
  simp only[Act.put,kss,i64_w,i32_w]
  rfl
 refine two_ (i:=2) (j:=8) (Ni:=some 11) (Nj:=some 5) (bm_ 13 519) (bm_ 13 771) rfl rfl rfl rfl (two_of HT_.out Y0) X0 X0 (fun Kc hK=>?_) (fun Kc hK=>?_)
 ·refine kgo Tryz.func72 #[.int .i64 a0] F0 rfl rfl ?_
  refine(bits_power.calls _ a0 z5 x6 _ A7.out).mono ?_
  rintro e W' ⟨v14,rfl,ar,hb⟩
  replace K:=K.addRI 0 0 hb ar (lb rfl)
  clear hb ar
  refine⟨_,rfl,hK.out _ _ (HS.out _ _ _ _ K) fun hH=>?_⟩
  exact knq (J25 (v14,v15,v16,g17,g18) _ K)
 exact kbx #[.bool false,.slice none 0 0] 43 5 fun g17 hg W' hx hb=>hK.out _ _ (HS.out _ _ _ _ (K.boxI 0 (lb rfl) hg hx hb)) fun _=>knq (J24 (v14,v15,v16,g17,g18) _ (K.boxI 0 (lb rfl) hg hx hb))
end Go.Proofs.YtncomlmhagaajaaGreat.PBo
