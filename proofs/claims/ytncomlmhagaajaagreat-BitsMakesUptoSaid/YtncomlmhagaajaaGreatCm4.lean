/- Part 4 of what the card rests on. -/
import Derived.Test.YtncomlmhagaajaaGreatCm3
set_option maxHeartbeats 8000000
set_option maxRecDepth 100000
set_option linter.unusedVariables false
set_option linter.unusedSimpArgs false
namespace Go.Proofs.YtncomlmhagaajaaGreat.PBo
open Go.RowKit Go.Proofs.YtncomlmhagaajaaGreatW.PrintWords Go.Proofs.YtncomlmhagaajaaGreatW.PrintLast Go.Proofs.YtncomlmhagaajaaGreatW.PrintMore
open Go.Proofs.YtncomlmhagaajaaGreat.Mine
attribute [local go_sem] max2_int min2_int max_two min_two max_three min_three max_four min_four
def tribunallaw09_alive.f (k:Nat):Option (Bool):=(tribunallaw09_b.f k 4 7).bind fun bt859=>((tribunallaw09_b.f k 4 12).bind fun bt863=>((bits_Apply.f k 52 ([]:List Int) (([(⟨bt859.1,bt859.2⟩:S28),(⟨bt863.1,bt863.2⟩:S28)]:List (S28)))).bind fun bt870=>((tribunallaw09_b.f k 4 8).bind fun bt876=>((tribunallaw09_b.f k 4 7).bind fun bt880=>((bits_Holds.f k 72 bt876.1 bt876.2 bt880.1 bt880.2).bind fun bt884=>(if bt870.2.2=0 then(if bt884.2=0 then((tribunalref09_Same.f k bt870.1 bt870.2.1 4 (([3]:List Int))).bind fun t889=>(if t889=true then(some bt884.1) else(none))) else(none)) else(none)))))))
theorem tribunallaw09_alive.mono:∀k,LeO (tribunallaw09_alive.f k) (tribunallaw09_alive.f (k+1)):=by
 intro k
 unfold tribunallaw09_alive.f
 repeat' first
   | (with_reducible exact bits_Apply.mono _ _ _ _)
   | (with_reducible exact bits_Holds.mono _ _ _ _ _ _)
   | (with_reducible exact tribunallaw09_b.mono _ _ _)
   | (with_reducible exact tribunalref09_Same.mono _ _ _ _ _)
   | (with_reducible exact LeO.refl _)
   | (with_reducible exact LeO.none _)
   | (with_reducible refine LeO.ite ?_ ?_)
   | (with_reducible refine LeO.bind ?_ (fun _=>?_))
   | exact bits_Apply.mono _ _ _ _
   | exact bits_Holds.mono _ _ _ _ _ _
   | exact tribunallaw09_b.mono _ _ _
   | exact tribunalref09_Same.mono _ _ _ _ _
   | exact LeO.none _
   | refine LeO.ite ?_ ?_
   | refine LeO.bind ?_ (fun _=>?_)
theorem tribunallaw09_alive.calls (k:Nat) (r:Bool) (w:World) (h:tribunallaw09_alive.f k=some r) :
  Calls Tryz.prog 14 #[] w fun e w'=>e=.returned (.bool r)∧Below w.heap.size w w':=by
 have bj:=Tryz.underlying28
 have HB:=Aside0.mk (Below.refl w.heap.size w)
 have H:((tribunallaw09_b.f k 4 7).bind fun aE=>((tribunallaw09_b.f k 4 12).bind fun ao=>((bits_Apply.f k 52 ([]:List Int) (([(⟨aE.1,aE.2⟩:S28),(⟨ao.1,ao.2⟩:S28)]:List (S28)))).bind fun ad=>((tribunallaw09_b.f k 4 8).bind fun ae=>((tribunallaw09_b.f k 4 7).bind fun ab=>((bits_Holds.f k 72 ae.1 ae.2 ab.1 ab.2).bind fun aa=>(if ad.2.2=0 then(if aa.2=0 then((tribunalref09_Same.f k ad.1 ad.2.1 4 (([3]:List Int))).bind fun ac=>(if ac=true then(some aa.1) else(none))) else(none)) else(none))))))))=some r:=h
 clear h
 replace H:=Option.bind_eq_some_iff.mp H
 obtain⟨⟨ah,ai⟩,A10,H⟩:=H
 replace H:((tribunallaw09_b.f k 4 12).bind fun ao=>((bits_Apply.f k 52 ([]:List Int) (([(⟨ah,ai⟩:S28),(⟨ao.1,ao.2⟩:S28)]:List (S28)))).bind fun ad=>((tribunallaw09_b.f k 4 8).bind fun ae=>((tribunallaw09_b.f k 4 7).bind fun ab=>((bits_Holds.f k 72 ae.1 ae.2 ab.1 ab.2).bind fun aa=>(if ad.2.2=0 then(if aa.2=0 then((tribunalref09_Same.f k ad.1 ad.2.1 4 (([3]:List Int))).bind fun ac=>(if ac=true then(some aa.1) else(none))) else(none)) else(none)))))))=some r:=H
 have A1:=Aside0.mk A10
 clear A10
 replace H:=Option.bind_eq_some_iff.mp H
 obtain⟨⟨al,am⟩,A20,H⟩:=H
 replace H:((bits_Apply.f k 52 ([]:List Int) (([(⟨ah,ai⟩:S28),(⟨al,am⟩:S28)]:List (S28)))).bind fun ad=>((tribunallaw09_b.f k 4 8).bind fun ae=>((tribunallaw09_b.f k 4 7).bind fun ab=>((bits_Holds.f k 72 ae.1 ae.2 ab.1 ab.2).bind fun aa=>(if ad.2.2=0 then(if aa.2=0 then((tribunalref09_Same.f k ad.1 ad.2.1 4 (([3]:List Int))).bind fun ac=>(if ac=true then(some aa.1) else(none))) else(none)) else(none))))))=some r:=H
 have A2:=Aside0.mk A20
 clear A20
 obtain⟨aD,ap⟩:∃y_:List (S28),y_=(([(⟨ah,ai⟩:S28),(⟨al,am⟩:S28)]:List (S28))):=⟨_,rfl⟩
 replace H:((bits_Apply.f k 52 ([]:List Int) aD).bind fun ad=>((tribunallaw09_b.f k 4 8).bind fun ae=>((tribunallaw09_b.f k 4 7).bind fun ab=>((bits_Holds.f k 72 ae.1 ae.2 ab.1 ab.2).bind fun aa=>(if ad.2.2=0 then(if aa.2=0 then((tribunalref09_Same.f k ad.1 ad.2.1 4 (([3]:List Int))).bind fun ac=>(if ac=true then(some aa.1) else(none))) else(none)) else(none))))))=some r:=by first|(rw[ap];with_reducible exact H)|(have H2_:=(Option.bind_some _ _).symm.trans H;rw[ap];with_reducible exact H2_)|(have H2_:=(Option.bind_some _ _).symm.trans H;with_reducible exact H2_)|with_reducible exact H|(rw[ap];exact H)|exact H
 have aF:=Aside0.mk ap
 clear ap
 replace H:=Option.bind_eq_some_iff.mp H
 obtain⟨⟨t870,t871,an⟩,A30,H⟩:=H
 replace H:((tribunallaw09_b.f k 4 8).bind fun ae=>((tribunallaw09_b.f k 4 7).bind fun ab=>((bits_Holds.f k 72 ae.1 ae.2 ab.1 ab.2).bind fun aa=>(if an=0 then(if aa.2=0 then((tribunalref09_Same.f k t870 t871 4 (([3]:List Int))).bind fun ac=>(if ac=true then(some aa.1) else(none))) else(none)) else(none)))))=some r:=H
 have A3:=Aside0.mk A30
 clear A30
 replace H:=Option.bind_eq_some_iff.mp H
 obtain⟨⟨aw,au⟩,A40,H⟩:=H
 replace H:((tribunallaw09_b.f k 4 7).bind fun ab=>((bits_Holds.f k 72 aw au ab.1 ab.2).bind fun aa=>(if an=0 then(if aa.2=0 then((tribunalref09_Same.f k t870 t871 4 (([3]:List Int))).bind fun ac=>(if ac=true then(some aa.1) else(none))) else(none)) else(none))))=some r:=H
 have A4:=Aside0.mk A40
 clear A40
 replace H:=Option.bind_eq_some_iff.mp H
 obtain⟨⟨aB,ax⟩,A50,H⟩:=H
 replace H:((bits_Holds.f k 72 aw au aB ax).bind fun aa=>(if an=0 then(if aa.2=0 then((tribunalref09_Same.f k t870 t871 4 (([3]:List Int))).bind fun ac=>(if ac=true then(some aa.1) else(none))) else(none)) else(none)))=some r:=H
 have A5:=Aside0.mk A50
 clear A50
 replace H:=Option.bind_eq_some_iff.mp H
 obtain⟨⟨ay,az⟩,A60,H⟩:=H
 replace H:(if an=0 then(if az=0 then((tribunalref09_Same.f k t870 t871 4 (([3]:List Int))).bind fun ac=>(if ac=true then(some ay) else(none))) else(none)) else(none))=some r:=H
 have A6:=Aside0.mk A60
 clear A60
 by_cases c7:an=0
 ·rw[if_pos c7]at H
  have bk:(an==0)=true:=beq_iff_eq.mpr c7
  have bl:(an != 0)=false:=bne_eq_false_iff_eq.mpr c7
  clear c7
  by_cases c8:az=0
  ·rw[if_pos c8]at H
   have bn:(az==0)=true:=beq_iff_eq.mpr c8
   have bo:(az != 0)=false:=bne_eq_false_iff_eq.mpr c8
   clear c8
   obtain⟨aH,aq⟩:∃y_:List Int,y_=(([3]:List Int)):=⟨_,rfl⟩
   replace H:((tribunalref09_Same.f k t870 t871 4 aH).bind fun ac=>(if ac=true then(some ay) else(none)))=some r:=by first|(rw[aq];with_reducible exact H)|(have H2_:=(Option.bind_some _ _).symm.trans H;rw[aq];with_reducible exact H2_)|(have H2_:=(Option.bind_some _ _).symm.trans H;with_reducible exact H2_)|with_reducible exact H|(rw[aq];exact H)|exact H
   have aG:=Aside0.mk aq
   clear aq
   replace H:=Option.bind_eq_some_iff.mp H
   obtain⟨ac,A90,H⟩:=H
   replace H:(if ac=true then(some ay) else(none))=some r:=H
   have A9:=Aside0.mk A90
   clear A90
   by_cases c10:ac=true
   ·subst c10
    have H1:(some ay)=some r:=by rw[if_pos rfl]at H;exact H
    clear H
    have H:=H1
    clear H1
    obtain rfl:=Option.some.inj H
    go_enter Tryz.func14,Tryz.ntmps14
    go_wp2_with (first|((with_reducible refine gate_callee (f:=20) rfl ?_);refine kgl (some 6) rfl rfl Tryz.func20 #[.int .i64 4,.int .u64 7] rfl ?_;(with_reducible refine(tribunallaw09_b.calls k 4 7 ah ai _ A1.out).mono ?_);rintro e w11 ⟨bp,rfl,ho0,hb⟩;refine⟨_,rfl,?_⟩;have aj:=Aside0.mk (Kd.R_lower ho0 (below_size (khu HB.out)));replace HB:=kbs HB hb;(try clear hb);(try clear hb2);(try clear hk);(try clear hi);(try clear ho0))|((with_reducible refine gate_callee (f:=20) rfl ?_);refine kgl (some 7) rfl rfl Tryz.func20 #[.int .i64 4,.int .u64 12] rfl ?_;(with_reducible refine(tribunallaw09_b.calls k 4 12 al am _ A2.out).mono ?_);rintro e w12 ⟨bq,rfl,ho0,hb⟩;refine⟨_,rfl,?_⟩;have av:=Aside0.mk (Kd.R_lower (Kd.R_new' ho0 (Kd.R_lt (kru aj.out))) (below_size (khu HB.out)));replace aj:=Aside0.mk (Kd.R_elder' (kru aj.out) (Kd.R_base ho0) hb);replace HB:=kbs HB hb;(try clear hb);(try clear hb2);(try clear hk);(try clear hi);(try clear ho0);obtain⟨aI,aJ,aQ⟩:=Kd.R_slice aj.out;subst aQ;obtain⟨aK,aL,aR⟩:=Kd.R_slice av.out;subst aR)|(refine gd 8 rfl ?_;(try(refine gate_guard F0 ?_;dsimp only));refine Kd.N_lit k28 _ 28 ?hg (N':=8) ?hd (xs:=([(⟨ah,ai⟩:S28),(⟨al,am⟩:S28)]:List (S28))) (inner:=[.int .i64 ah,.slice aI ai.length aJ,.int .i64 al,.slice aK am.length aL]) (ok:=(fun _=>True)) (okp:=(fun _=>True)) ?hr ?hp (fun _ hk=>hk) ((show ∀k_,w12.heap.size≤k_→(fun _=>True) k_ from fun k_ hk=>trivial) _ (Nat.le_refl _)) (Below.refl _ _) (Nat.le_refl _) Z1 ?_;(case hd=>rfl);(case hg=>rfl);(case hr=>first|(go_simp;done)|(go_simp;rfl));(case hp=>exact(Reps.c2 (show Kd.FK k28 _ _ (⟨ah,ai⟩:S28) [.int .i64 ah,.slice aI ai.length aJ] from(k28_mkF _ _ (⟨ah,ai⟩:S28) (Kd.R_reads' (Kd.R_mono (ok':=(fun _=>True)) (aj.out) (fun k_ hk=>trivial))).2.1 (Kd.R_F (Kd.R_mono (ok':=(fun _=>True)) (aj.out) (fun k_ hk=>trivial))))) (Reps.c2 (show Kd.FK k28 _ _ (⟨al,am⟩:S28) [.int .i64 al,.slice aK am.length aL] from(k28_mkF _ _ (⟨al,am⟩:S28) (Kd.R_reads' (Kd.R_mono (ok':=(fun _=>True)) (av.out) (fun k_ hk=>trivial))).2.1 (Kd.R_F (Kd.R_mono (ok':=(fun _=>True)) (av.out) (fun k_ hk=>trivial))))) (Reps.none _ _))));intro br w15 aA hb hg_ hnew_;clear hg_ hnew_;(first|rw[←aF.out]at aA|(simp only[Int.reduceToNat]at aA;rw[←aF.out]at aA));have HO869:=Aside0.mk (Kd.N_lower aA (below_size (khu HB.out)));replace HB:=kbs HB hb;clear aj av;clear hb aA;obtain⟨aS,aT,aU⟩:=Kd.N_slice HO869.out;subst aU)|((with_reducible refine gate_callee (f:=11) rfl ?_);refine kgl (some 9) rfl rfl Tryz.func11 #[.int .i64 52,.slice none 0 0,.slice aS aD.length aT] rfl ?_;(refine(bits_Apply.calls k 52 _ _ ([]:List Int) _ _ aD t870 t871 an _ ?side1 ?side2 ?side3 ?side4 A3.out).mono ?_);(case side1=>exact Kd.C_nil _ _);(case side2=>exact Nat.le_refl _);(case side3=>repeat (first|exact(Kd.N_reads' HO869.out).2.2|(with_reducible refine Kd.C_alloc ?_ _)|(with_reducible refine Kd.C_drewN ?_ _)|(with_reducible refine Kd.C_drew ?_)));(case side4=>exact(Kd.N_reads' HO869.out).2.1);rintro e w18 ⟨bu,rfl,ho0,hb⟩;refine⟨_,rfl,?_⟩;replace HO869:=Aside0.mk (Kd.N_elder' V2 (Kd.R_base ho0) hb);have HO873:=Aside0.mk (Kd.R_lower (Kd.R_mono (ok':=fun k_=>True) ho0 (fun _ hk_=>trivial)) (below_size (khu HB.out)));replace HB:=kbs HB hb;(try clear hb);(try clear hb2);(try clear hk);(try clear hi);(try clear ho0))|(refine gd 1 rfl ?_;(try(refine gate_guard F0 ?_;dsimp only));refine kbe 1 #[.int .i64 0,.slice none 0 0] 28 ?_;intro gb875 hg w19 hbox hb;replace HO869:=Aside0.mk (Kd.N_below (Kd.N_elderB V2 gb875 (Nat.le_of_eq hg.symm)) hb);replace HO873:=krb HO873 hb;have BK875:=Aside0.mk (hbox);have bi:=kbz hg HB;have aC:=kbz hg HB;replace HB:=kbs HB hb;clear hb hbox hg;have aZ:w19.cell? ⟨gb875,0,none⟩=some (.int .i64 0):=(blk_cell BK875.out 0).trans rfl;have bb:w19.cell? ⟨gb875,1,none⟩=some (.slice none 0 0):=(blk_cell BK875.out 1).trans rfl;have bc:=blk_frozen BK875.out 0;have bd:=blk_frozen BK875.out 1;obtain⟨Ao21,co21,aV⟩:=Kd.R_slice HO873.out;subst aV)|((with_reducible refine gate_callee (f:=20) rfl ?_);refine kgl (some 13) rfl rfl Tryz.func20 #[.int .i64 4,.int .u64 8] rfl ?_;(with_reducible refine(tribunallaw09_b.calls k 4 8 aw au _ A4.out).mono ?_);rintro e w22 ⟨bv,rfl,ho0,hb⟩;refine⟨_,rfl,?_⟩;replace HO869:=Aside0.mk (Kd.N_elder' (by(with_reducible repeat (first|apply Kd.N_alloc|apply Kd.N_drewN|apply Kd.N_drew));exact(Kd.N_mono (Kd.N_far (p:=⟨gb875,1,none⟩) (Kd.N_far (p:=⟨gb875,0,none⟩) (Kd.N_mono HO869.out (fun k_ hk=>(⟨hk,hk.2⟩:_∧k_≠gb875))) (fun _ hk=>hk.2) (.int .i64 t870)) (fun _ hk=>hk.2) (.slice Ao21 t871.length co21)) (fun _ h_=>h_.1))) (Kd.R_base ho0) hb);have af:=Aside0.mk (Kd.R_lower (Kd.R_new' ho0 (Kd.R_lt Z3)) (below_size (by repeat (first|(with_reducible first|exact HB.out|apply below_alloc|apply pw_below_drewN|apply below_drew1|refine below_set ?_ aC.out)|exact HB.out))));replace HO873:=Aside0.mk (Kd.R_elder' Z3 (Kd.R_base ho0) hb);replace BK875:=Aside0.mk (blk_below (g:=gb875) (o:=.cells #[.int .i64 t870,.slice Ao21 t871.length co21] 28 (0,0)) (kpu #[.int .i64 t870,.slice none 0 0] 1 (kpu #[.int .i64 0,.slice none 0 0] 0 (kbu BK875.out))) hb);replace HB:=Aside0.mk (below_step (by repeat (first|(with_reducible first|exact HB.out|apply below_alloc|apply pw_below_drewN|apply below_drew1|refine below_set ?_ aC.out)|exact HB.out)) hb);(try clear hb);(try clear hb2);(try clear hk);(try clear hi);(try clear ho0))|((with_reducible refine gate_callee (f:=20) rfl ?_);refine kgl (some 14) rfl rfl Tryz.func20 #[.int .i64 4,.int .u64 7] rfl ?_;(with_reducible refine(tribunallaw09_b.calls k 4 7 aB ax _ A5.out).mono ?_);rintro e w23 ⟨bw,rfl,ho0,hb⟩;refine⟨_,rfl,?_⟩;replace HO869:=Aside0.mk (Kd.N_elder' V2 (Kd.R_base ho0) hb);have ag:=Aside0.mk (Kd.R_lower (Kd.R_new' (Kd.R_new' ho0 (Kd.R_lt (kru HO873.out))) (Kd.R_lt (kru af.out))) (below_size (khu HB.out)));replace HO873:=Aside0.mk (Kd.R_elder' (kru HO873.out) (Kd.R_base ho0) hb);replace af:=Aside0.mk (Kd.R_elder' (kru af.out) (Kd.R_base ho0) hb);replace BK875:=kbb BK875 hb;replace HB:=kbs HB hb;(try clear hb);(try clear hb2);(try clear hk);(try clear hi);(try clear ho0);obtain⟨aM,aN,aW⟩:=Kd.R_slice af.out;subst aW;obtain⟨aO,aP,aX⟩:=Kd.R_slice ag.out;subst aX)|((with_reducible refine gate_callee (f:=15) rfl ?_);refine kgl (some 15) rfl rfl Tryz.func15 #[.int .i64 72,.agg #[.int .i64 aw,.slice aM au.length aN],.agg #[.int .i64 aB,.slice aO ax.length aP]] rfl ?_;(with_reducible refine(bits_Holds.calls k 72 aw (fun k_=>some k_=(.slice aM au.length aN:Value).ownBlock) _ _ au aB (fun k_=>some k_=(.slice aO ax.length aP:Value).ownBlock) _ _ ax ay az _ ?side1 ?side2 A6.out).mono ?_);(case side1=>exact Kd.R_V (Kd.R_tight rfl (Kd.R_types (Kd.R_apart' (af.out) (Kd.N_typed HO869.out) X0) BK875.out X0)));(case side2=>exact Kd.R_V (Kd.R_tight rfl (Kd.R_types (Kd.R_apart' (ag.out) (Kd.N_typed HO869.out) X0) BK875.out X0)));rintro e w26 ⟨rfl,hb⟩;refine⟨_,rfl,?_⟩;replace HO869:=Aside0.mk (Kd.N_below V2 hb);replace HO873:=krb HO873 hb;replace af:=krb af hb;replace ag:=krb ag hb;replace BK875:=kbb BK875 hb;replace HB:=kbs HB hb;(try clear hb);(try clear hb2);(try clear hk);(try clear hi);have be:w26.cell? ⟨gb875,0,none⟩=some (.int .i64 t870):=(blk_cell BK875.out 0).trans rfl;have bf:w26.cell? ⟨gb875,1,none⟩=some (.slice Ao21 t871.length co21):=(blk_cell BK875.out 1).trans rfl;have bg:=blk_frozen BK875.out 0;have bh:=blk_frozen BK875.out 1)|(refine gd 26 rfl ?_;(try(refine gate_guard F0 ?_;dsimp only));refine Kd.R_lit (Kd.int .u64) _ 48 ?hg (N:=26) ?hd (xs:=([3]:List Int)) (inner:=[.int .u64 3]) (ok:=fun _=>True) (okp:=fun _=>True) ?hr ?hp (fun _ hk=>hk) trivial (Below.refl _ _) (Nat.le_refl _) Z1 ?_;(case hd=>rfl);(case hg=>rfl);(case hr=>first|(go_simp;done)|(go_simp;rfl));(case hp=>exact(Reps.one (show Kd.M (Kd.int .u64) _ _ _ 3 [.int .u64 3] from rfl) (Reps.none _ _)));intro bx w28 ak hb hg_ hnew_;clear hg_ hnew_;(first|rw[←aG.out]at ak|(simp only[Int.reduceToNat]at ak;rw[←aG.out]at ak));replace HO869:=Aside0.mk (Kd.N_elder' V2 (Kd.R_base ak) hb);have ar:=Aside0.mk (Kd.R_lower (Kd.R_new' (Kd.R_new' (Kd.R_new' ak (Kd.R_lt (kru HO873.out))) (Kd.R_lt (kru af.out))) (Kd.R_lt (kru ag.out))) (below_size (khu HB.out)));replace HO873:=Aside0.mk (Kd.R_elder' (kru HO873.out) (Kd.R_base ak) hb);replace af:=Aside0.mk (Kd.R_elder' (kru af.out) (Kd.R_base ak) hb);replace ag:=Aside0.mk (Kd.R_elder' (kru ag.out) (Kd.R_base ak) hb);replace BK875:=kbb BK875 hb;replace HB:=kbs HB hb;clear hb ak;obtain⟨bz,bA,aY⟩:=Kd.R_slice ar.out;subst aY)|(go_at_call 13;(with_reducible refine(tribunalref09_Same.calls k t870 _ _ t871 4 _ _ aH true _ ?side1 ?side2 ?side3 ?side4 A9.out).mono ?_);(case side1=>repeat (first|exact(Kd.R_reads' HO873.out).2.2|(with_reducible refine Kd.C_alloc ?_ _)|(with_reducible refine Kd.C_drewN ?_ _)|(with_reducible refine Kd.C_drew ?_)));(case side2=>exact(Kd.R_reads' HO873.out).2.1);(case side3=>repeat (first|exact(Kd.R_reads' ar.out).2.2|(with_reducible refine Kd.C_alloc ?_ _)|(with_reducible refine Kd.C_drewN ?_ _)|(with_reducible refine Kd.C_drew ?_)));(case side4=>exact(Kd.R_reads' ar.out).2.1);rintro e w31 ⟨rfl,hb⟩;replace HO869:=Aside0.mk (Kd.N_below V2 hb);replace HO873:=krb HO873 hb;replace af:=krb af hb;replace ag:=krb ag hb;replace ar:=krb ar hb;replace BK875:=kbb BK875 hb;replace HB:=kbs HB hb;(try clear hb);(try clear hb2);(try clear hk);(try clear hi)))
    go_ret
    exact⟨D0,by repeat (first|(with_reducible first|exact HB.out|apply below_alloc|apply pw_below_drewN|apply below_drew1|refine below_set ?_ aC.out)|exact HB.out)⟩
   replace c10:=Bool.eq_false_iff.mpr c10
   subst c10
   have H1:(none)=some r:=by rw[if_neg (show ¬(false=true) by decide)]at H;exact H
   clear H
   have H:=H1
   clear H1
   exact absurd H Z1
  rw[if_neg c8]at H
  exact absurd H Z1
 rw[if_neg c7]at H
 exact absurd H Z1
mutual
def tribunalref09_Right.j0:Nat→Bool→Int→List Int→Option (Bool)
 | 0,_,_,_=>none
 | k+1,x11,x891000,x891001=>if x11=true then(some false) else(tribunalref09_Right.l0 k x891000 x891000 x891001)
def tribunalref09_Right.l0:Nat→Int→Int→List Int→Option (Bool)
 | 0,_,_,_=>none
 | k+1,x3,x891000,x891001=>if x3<(wrap64 (64*(x891001.length:Int))) then(if 0≤(wrap64 (Int.tdiv x3 64)) then(if(wrap64 (Int.tdiv x3 64))<(x891001.length:Int) then(if 0≤(IntKind.u64.wrap (Int.tmod x3 64)) then(if(Go.bits .and .u64 (shr .u64 (rd x891001 (wrap64 (Int.tdiv x3 64))) (IntKind.u64.wrap (Int.tmod x3 64))) 1)=1 then(some false) else(tribunalref09_Right.l0 k (wrap64 (x3+1)) x891000 x891001)) else(none)) else(none)) else(none)) else(some true)
end
def tribunalref09_Right.f (k:Nat) (a0_0:Int) (l0_1:List Int):Option (Bool):=if a0_0<1 then(tribunalref09_Right.j0 k true a0_0 l0_1) else(tribunalref09_Right.j0 k (decide (a0_0>4096)) a0_0 l0_1)
theorem tribunalref09_Right.calls (k:Nat) (ac:Int) (ah:Option Addr) (ai:Nat) (ab:List Int) (r:Bool) (w:World) (aD:Kd.C (Kd.int .u64) w ah ab.length ab) (aE:ab.length≤ai) (h:tribunalref09_Right.f k ac ab=some r) :
  Calls Tryz.prog 30 #[.agg #[.int .i64 ac,.slice ah ab.length ai]] w fun e w'=>e=.returned (.bool r)∧Below w.heap.size w w':=by
 have bj:=Tryz.underlying28
 have aF:=Aside0.mk aD
 have bd:=Aside0.mk aE
 clear aD aE
 have HB:=Aside0.mk (Below.refl w.heap.size w)
 have H:(if ac<1 then(tribunalref09_Right.j0 k true ac ab) else(tribunalref09_Right.j0 k (decide (ac>4096)) ac ab))=some r:=h
 clear h
 have HC2:=Aside0.mk H
 clear H
 go_enter Tryz.func30,Tryz.ntmps30
 go_upto_region 1 with(first|(refine gd 1 rfl ?_;refine kbe 1 #[.int .i64 ac,.slice ah ab.length ai] 28 ?_;intro ae hg w3 hbox hb;have aa:=Aside0.mk (hbox);have be:=kbz hg HB;have aj:=kbz hg HB;replace HB:=kbs HB hb;clear hb hbox hg))
 (try simp only[Act.put,kss])
 go_cut [11] (fun v11 wc=>∃(kq:Nat) (ap:Bool),v11=.bool ap∧Aside0 (tribunalref09_Right.j0 kq ap ac ab=some r)∧Aside0 (kq≤k)∧Aside0 (wc.heap[ae]? = some (.cells #[.int .i64 ac,(.slice ah ab.length ai)] 28 (0,0)))∧Aside0 (Below w.heap.size w wc))
 case first=>
  have H:=HC2.out
  clear HC2
  by_cases c4:ac<1
  ·rw[if_pos c4]at H
   have am:decide (ac<1)=true:=decide_eq_true c4
   clear c4
   (first|rw[am]|rw[aB]|(simp only[i64_w,i32_w];rw[am])|skip)
   have H':=Aside0.mk H
   clear H
   have ar:w3.cell? ⟨ae,0,none⟩=some (.int .i64 ac):=(blk_cell aa.out 0).trans rfl
   have au:w3.cell? ⟨ae,1,none⟩=some (.slice ah ab.length ai):=(blk_cell aa.out 1).trans rfl
   have av:=blk_frozen aa.out 0
   have aw:=blk_frozen aa.out 1
   go_wp2
   go_meet
   case rel=>exact⟨_,(true),J0,H',⟨U3⟩,⟨by(with_reducible repeat (first|refine blk_drewN ?_ _|refine blk_drew ?_|refine blk_alloc ?_ _));exact aa.out⟩,⟨by repeat (first|(with_reducible first|exact HB.out|apply below_alloc|apply pw_below_drewN|apply below_drew1|refine below_set ?_ aj.out)|exact HB.out)⟩⟩
  rw[if_neg c4]at H
  have am:decide (ac<1)=false:=decide_eq_false c4
  clear c4
  (first|rw[am]|rw[aB]|(simp only[i64_w,i32_w];rw[am])|skip)
  have H':=Aside0.mk H
  clear H
  have ax:w3.cell? ⟨ae,0,none⟩=some (.int .i64 ac):=(blk_cell aa.out 0).trans rfl
  have ay:w3.cell? ⟨ae,1,none⟩=some (.slice ah ab.length ai):=(blk_cell aa.out 1).trans rfl
  have az:=blk_frozen aa.out 0
  have aA:=blk_frozen aa.out 1
  go_wp2
  go_meet
  case rel=>exact⟨_,(decide (ac>4096)),J0,H',⟨U3⟩,⟨by(with_reducible repeat (first|refine blk_drewN ?_ _|refine blk_drew ?_|refine blk_alloc ?_ _));exact aa.out⟩,⟨by repeat (first|(with_reducible first|exact HB.out|apply below_alloc|apply pw_below_drewN|apply below_drew1|refine below_set ?_ aj.out)|exact HB.out)⟩⟩
 case rest=>
  clear HC2
  try clear p2
  try clear c3
  try clear c4
  try clear am
  try clear aB
  try clear ar
  try clear au
  try clear ax
  try clear ay
  try clear av
  try clear aw
  try clear az
  try clear aA
  obtain⟨kq,ap,rfl,HA,HJ1,aa,HB⟩:=hcut
  cases kq with
  | zero=>exact absurd HA.out (by simp[tribunalref09_Right.j0])
  | succ kj1=>
   have H:=HA.out
   clear HA
   simp only[tribunalref09_Right.j0]at H
   by_cases c7:ap=true
   ·subst c7
    have H1:(some false)=some r:=by rw[if_pos rfl]at H;exact H
    clear H
    have H:=H1
    clear H1
    obtain rfl:=Option.some.inj H
    go_wp2
    go_ret
    exact⟨D0,by repeat (first|(with_reducible first|exact HB.out|apply below_alloc|apply pw_below_drewN|apply below_drew1|refine below_set ?_ aj.out)|exact HB.out)⟩
   replace c7:=Bool.eq_false_iff.mpr c7
   subst c7
   have H1:(tribunalref09_Right.l0 kj1 ac ac ab)=some r:=by rw[if_neg (show ¬(false=true) by decide)]at H;exact H
   clear H
   have H:=H1
   clear H1
   have H':=Aside0.mk H
   clear H
   have aG:wc.cell? ⟨ae,0,none⟩=some (.int .i64 ac):=(blk_cell aa.out 0).trans rfl
   have aH:wc.cell? ⟨ae,1,none⟩=some (.slice ah ab.length ai):=(blk_cell aa.out 1).trans rfl
   have aI:=blk_frozen aa.out 0
   have aJ:=blk_frozen aa.out 1
   go_wp2
   go_loopg [3] kj1 (fun kq v3 w'=>∃(af:Int),v3=.int .i64 af∧Aside0 (tribunalref09_Right.l0 kq af ac ab=some r)∧Aside0 (kq≤kj1)∧Aside0 (w'.heap[ae]? = some (.cells #[.int .i64 ac,(.slice ah ab.length ai)] 28 (0,0)))∧Aside0 (Below w.heap.size w w'))
   case atStart=>exact⟨(ac),J0,H',⟨Nat.le_refl _⟩,⟨by(with_reducible repeat (first|refine blk_drewN ?_ _|refine blk_drew ?_|refine blk_alloc ?_ _));exact aa.out⟩,⟨by repeat (first|(with_reducible first|exact HB.out|apply below_alloc|apply pw_below_drewN|apply below_drew1|refine below_set ?_ aj.out)|exact HB.out)⟩⟩
   case round=>
    clear H'
    try clear p2
    try clear c3
    try clear c4
    try clear am
    try clear aB
    try clear c7
    try clear ar
    try clear au
    try clear ax
    try clear ay
    try clear aG
    try clear aH
    try clear av
    try clear aw
    try clear az
    try clear aA
    try clear aI
    try clear aJ
    try clear p2
    obtain⟨af,rfl,HA,HK2,aa,HB⟩:=hrel
    cases gk with
    | zero=>exact absurd HA.out (by simp[tribunalref09_Right.l0])
    | succ k2=>
     have H:=HA.out
     clear HA
     simp only[tribunalref09_Right.l0]at H
     by_cases c9:af<(wrap64 (64*(ab.length:Int)))
     ·rw [if_pos c9]at H
      have aN:decide (af<(wrap64 (64*(ab.length:Int))))=true:=decide_eq_true c9
      clear c9
      obtain⟨ad,hji10⟩:∃j_:Int,(wrap64 (Int.tdiv af 64))=j_:=⟨_,rfl⟩
      replace H:(if 0≤(ad) then(if(ad)<(ab.length:Int) then(if 0≤(IntKind.u64.wrap (Int.tmod af 64)) then(if(Go.bits .and .u64 (shr .u64 (rd ab (ad)) (IntKind.u64.wrap (Int.tmod af 64))) 1)=1 then(some false) else(tribunalref09_Right.l0 k2 (wrap64 (af+1)) ac ab)) else(none)) else(none)) else(none))=some r:=by first|(rw[hji10]at H;exact H)|(simp only[hji10]at H ⊢;exact H)
      have bb:(IntKind.i64.wrap (Int.tdiv af 64))=ad:=(i64_w _).trans hji10
      by_cases c11:0≤(ad)
      ·rw [if_pos c11]at H
       have bf:decide (0≤(ad))=true:=decide_eq_true c11
       clear c11
       by_cases c12:(ad)<(ab.length:Int)
       ·rw[if_pos c12]at H
        have bg:decide ((ad)<(ab.length:Int))=true:=decide_eq_true c12
        clear c12
        obtain⟨ak,aq⟩:∃j_:Int,(IntKind.u64.wrap (Int.tmod af 64))=j_:=⟨_,rfl⟩
        replace H:(if 0≤(ak) then(if(Go.bits .and .u64 (shr .u64 (rd ab (ad)) (ak)) 1)=1 then(some false) else(tribunalref09_Right.l0 k2 (wrap64 (af+1)) ac ab)) else(none))=some r:=by first|(rw[aq]at H;exact H)|(simp only[aq]at H ⊢;exact H)
        by_cases c14:0≤(ak)
        ·rw[if_pos c14]at H
         have bh:=eq_true c14
         have bi:decide (0≤(ak))=true:=decide_eq_true c14
         clear c14
         obtain⟨al,hji15⟩:∃j_:Int,(shr .u64 (rd ab (ad)) (ak))=j_:=⟨_,rfl⟩
         replace H:(if(Go.bits .and .u64 (al) 1)=1 then(some false) else(tribunalref09_Right.l0 k2 (wrap64 (af+1)) ac ab))=some r:=by first|(rw[hji15]at H;exact H)|(simp only[hji15]at H ⊢;exact H)
         have hji15_:((rd ab (ad))/2^min (ak).toNat 64)=al:=hji15
         have bc:(ak)≤64→((rd ab (ad))/2^(ak).toNat)=al:=shr_small hji15
         by_cases c16:(Go.bits .and .u64 (al) 1)=1
         ·rw[if_pos c16]at H
          have aK:((Go.bits .and .u64 (al) 1)==1)=true:=beq_iff_eq.mpr c16
          have aL:((Go.bits .and .u64 (al) 1) != 1)=false:=bne_eq_false_iff_eq.mpr c16
          clear c16
          obtain rfl:=Option.some.inj H
          have aO:wr.cell? ⟨ae,0,none⟩=some (.int .i64 ac):=(blk_cell aa.out 0).trans rfl
          have aP:wr.cell? ⟨ae,1,none⟩=some (.slice ah ab.length ai):=(blk_cell aa.out 1).trans rfl
          have aQ:=blk_frozen aa.out 0
          have aR:=blk_frozen aa.out 1
          have an:0≤((ad):Int):=of_decide_eq_true ‹_›
          have ao:(ad)<(ab.length:Int):=of_decide_eq_true ‹_›
          obtain⟨aM,aC,ag⟩:=Kd.at_int aF.out (ad) an ao
          cases aC
          replace ag:=(HB.out.cell (World.block_lt_of_cell? w _ ag)).trans ag
          replace an:=eq_true an
          replace ao:=eq_true ao
          go_wp2
          go_ret
          exact⟨by first|rfl|(simp[errW_none,errW_some]<;>rfl)|(simp only[←hji10,←aq,←hji15];first|rfl|(simp[errW_none,errW_some]<;>rfl))|(simp[*,errW_none,errW_some]<;>rfl),by repeat (first|(with_reducible first|exact HB.out|apply below_alloc|apply pw_below_drewN|apply below_drew1|refine below_set ?_ aj.out)|exact HB.out)⟩
         rw[if_neg c16]at H
         have aK:((Go.bits .and .u64 (al) 1)==1)=false:=beq_eq_false_iff_ne.mpr c16
         have aL:((Go.bits .and .u64 (al) 1) != 1)=true:=bne_iff_ne.mpr c16
         have H':=Aside0.mk H
         clear H
         have aS:wr.cell? ⟨ae,0,none⟩=some (.int .i64 ac):=(blk_cell aa.out 0).trans rfl
         have aT:wr.cell? ⟨ae,1,none⟩=some (.slice ah ab.length ai):=(blk_cell aa.out 1).trans rfl
         have aU:=blk_frozen aa.out 0
         have aV:=blk_frozen aa.out 1
         have an:0≤((ad):Int):=of_decide_eq_true ‹_›
         have ao:(ad)<(ab.length:Int):=of_decide_eq_true ‹_›
         obtain⟨aM,aC,ag⟩:=Kd.at_int aF.out (ad) an ao
         cases aC
         replace ag:=(HB.out.cell (World.block_lt_of_cell? w _ ag)).trans ag
         replace an:=eq_true an
         replace ao:=eq_true ao
         go_wp2
         go_roundg k2
         case measure=>have:=HJ1.out;have:=HK2.out;omega
         case rel=>exact⟨(wrap64 (af+1)),J0,H',⟨by have:=HJ1.out;have:=HK2.out;omega⟩,⟨by(with_reducible repeat (first|refine blk_drewN ?_ _|refine blk_drew ?_|refine blk_alloc ?_ _));exact aa.out⟩,⟨by repeat (first|(with_reducible first|exact HB.out|apply below_alloc|apply pw_below_drewN|apply below_drew1|refine below_set ?_ aj.out)|exact HB.out)⟩⟩
        rw[if_neg c14]at H
        exact absurd H Z1
       rw[if_neg c12]at H
       exact absurd H Z1
      rw[if_neg c11]at H
      exact absurd H Z1
     rw[if_neg c9]at H
     have aN:decide (af<(wrap64 (64*(ab.length:Int))))=false:=decide_eq_false c9
     clear c9
     obtain rfl:=Option.some.inj H
     have aW:wr.cell? ⟨ae,0,none⟩=some (.int .i64 ac):=(blk_cell aa.out 0).trans rfl
     have aX:wr.cell? ⟨ae,1,none⟩=some (.slice ah ab.length ai):=(blk_cell aa.out 1).trans rfl
     have aY:=blk_frozen aa.out 0
     have aZ:=blk_frozen aa.out 1
     go_wp2
     go_ret
     exact⟨D0,by repeat (first|(with_reducible first|exact HB.out|apply below_alloc|apply pw_below_drewN|apply below_drew1|refine below_set ?_ aj.out)|exact HB.out)⟩
def tribunalref02_trim.l0:Nat→List Int→Int→Option (List Int)
 | 0,_,_=>none
 | k+1,x0,x3=>if x3>0 then(if 0≤(wrap64 (x3-1)) then(if(wrap64 (x3-1))<(x0.length:Int) then(if(rd x0 (wrap64 (x3-1)))=0 then(tribunalref02_trim.l0 k x0 (wrap64 (x3-1))) else(if 0≤x3 then(if x3≤(x0.length:Int) then(some (x0.take (x3:Int).toNat)) else(none)) else(none))) else(none)) else(none)) else(if 0≤x3 then(if x3≤(x0.length:Int) then(some (x0.take (x3:Int).toNat)) else(none)) else(none))
def tribunalref02_trim.f (k:Nat) (l0:List Int):Option (List Int):=tribunalref02_trim.l0 k l0 (l0.length:Int)
theorem tribunalref02_trim.mono_l:∀k,(∀y0 y1,LeO (tribunalref02_trim.l0 k y0 y1) (tribunalref02_trim.l0 (k+1) y0 y1))
 | 0=>fun _ _ r h=>by simp[tribunalref02_trim.l0]at h
 | k+1=>by
  have ih0:=tribunalref02_trim.mono_l k
  intro y0 y1
  unfold tribunalref02_trim.l0
  repeat' first
  | (with_reducible exact ih0 _ _)
  | (with_reducible exact LeO.refl _)
  | (with_reducible exact LeO.none _)
  | (with_reducible refine LeO.ite ?_ ?_)
  | (with_reducible refine LeO.bind ?_ (fun _=>?_))
  | exact ih0 _ _
  | exact LeO.none _
  | refine LeO.ite ?_ ?_
  | refine LeO.bind ?_ (fun _=>?_)
theorem tribunalref02_trim.mono:∀a0 k,LeO (tribunalref02_trim.f k a0) (tribunalref02_trim.f (k+1) a0):=by
 intro a0 k
 have ih0:=tribunalref02_trim.mono_l k
 unfold tribunalref02_trim.f
 repeat' first
   | (with_reducible exact ih0 _ _)
   | (with_reducible exact LeO.refl _)
   | (with_reducible exact LeO.none _)
   | (with_reducible refine LeO.ite ?_ ?_)
   | (with_reducible refine LeO.bind ?_ (fun _=>?_))
   | exact ih0 _ _
   | exact LeO.none _
   | refine LeO.ite ?_ ?_
   | refine LeO.bind ?_ (fun _=>?_)
theorem tribunalref02_trim.calls (k:Nat) (P0_:Nat→Prop) (A0:Option Addr) (c0:Nat) (l0:List Int) (r:List Int) (w:World) (hs0:Kd.V (Kd.int .u16) 127 w w.heap.size (fun k_=>P0_ k_) (.slice A0 l0.length c0) l0) (h:tribunalref02_trim.f k l0=some r) :
  Calls Tryz.prog 155 #[.slice A0 l0.length c0] w fun e w'=>∃v0_:Value,e=.returned (v0_)∧Kd.V (Kd.int .u16) 127 w' w.heap.size (fun k_=>(P0_ k_∨w.heap.size≤k_)) v0_ r∧Below w.heap.size w w':=by
 have HO0:=Aside0.mk (show Kd.V (Kd.int .u16) 127 w w.heap.size (fun k_=>(P0_ k_∨w.heap.size≤k_)) (.slice A0 l0.length c0) l0 from Kd.V_mono hs0 (fun k_ hk=>.inl hk))
 have HB:=Aside0.mk (Below.refl w.heap.size w)
 have H:(tribunalref02_trim.l0 k l0 (l0.length:Int))=some r:=h
 clear h
 have H':=Aside0.mk H
 clear H
 go_enter Tryz.func155,Tryz.ntmps155
 go_wp2
 go_loopg [3] k (fun kq v3 w'=>∃(aa:Int),v3=.int .i64 aa∧Aside0 (tribunalref02_trim.l0 kq l0 aa=some r)∧Aside0 (kq≤k)∧Aside0 (Kd.V (Kd.int .u16) 127 w' w.heap.size (fun k_=>(P0_ k_∨w.heap.size≤k_)) (.slice A0 l0.length c0) l0)∧Aside0 (Below w.heap.size w w'))
 case atStart=>exact⟨((l0.length:Int)),J0,H',⟨Nat.le_refl _⟩,⟨kvu HO0.out⟩,⟨khu HB.out⟩⟩
 case round=>
  clear H'
  try clear c1
  obtain⟨aa,rfl,HA,HK1,ab,HB⟩:=hrel
  cases gk with
  | zero=>exact absurd HA.out (by simp[tribunalref02_trim.l0])
  | succ k1=>
   have H:=HA.out
   clear HA
   simp only[tribunalref02_trim.l0]at H
   by_cases c2:aa>0
   ·rw [if_pos c2]at H
    have aB:decide (0<aa)=true:=decide_eq_true c2
    clear c2
    obtain⟨ji3,hji3⟩:∃j_:Int,(wrap64 (aa-1))=j_:=⟨_,rfl⟩
    replace H:(if 0≤(ji3) then(if(ji3)<(l0.length:Int) then(if(rd l0 (ji3))=0 then(tribunalref02_trim.l0 k1 l0 ji3) else(if 0≤aa then(if aa≤(l0.length:Int) then(some (l0.take (aa:Int).toNat)) else(none)) else(none))) else(none)) else(none))=some r:=by first|(rw[hji3]at H;exact H)|(simp only[hji3]at H ⊢;exact H)
    have aF:(IntKind.i64.wrap (aa-1))=ji3:=(i64_w _).trans hji3
    by_cases c4:0≤(ji3)
    ·rw [if_pos c4]at H
     have aM:decide (0≤(ji3))=true:=decide_eq_true c4
     clear c4
     by_cases c5:(ji3)<(l0.length:Int)
     ·rw[if_pos c5]at H
      have aN:decide ((ji3)<(l0.length:Int))=true:=decide_eq_true c5
      clear c5
      by_cases c6:(rd l0 (ji3))=0
      ·rw[if_pos c6]at H
       have aC:((rd l0 (ji3))==0)=true:=beq_iff_eq.mpr c6
       have aD:((rd l0 (ji3)) != 0)=false:=bne_eq_false_iff_eq.mpr c6
       clear c6
       have H':=Aside0.mk H
       clear H
       have ac:0≤((ji3):Int):=of_decide_eq_true ‹_›
       have ad:(ji3)<(l0.length:Int):=of_decide_eq_true ‹_›
       obtain⟨ag,al,ar⟩:=Kd.at_int (Kd.V_reads' ab.out).2.2 (ji3) ac ad
       cases al
       replace ac:=eq_true ac
       replace ad:=eq_true ad
       go_wp2
       go_roundg k1
       case measure=>have:=HK1.out;omega
       case rel=>exact⟨(ji3),J4,H',⟨X2⟩,⟨kvu ab.out⟩,⟨khu HB.out⟩⟩
      rw[if_neg c6]at H
      have aC:((rd l0 (ji3))==0)=false:=beq_eq_false_iff_ne.mpr c6
      have aD:((rd l0 (ji3)) != 0)=true:=bne_iff_ne.mpr c6
      by_cases c7:0≤aa
      ·rw[if_pos c7]at H
       have aO:=eq_true c7
       have aP:decide (0≤aa)=true:=decide_eq_true c7
       clear c7
       by_cases c8:aa≤(l0.length:Int)
       ·rw[if_pos c8]at H
        have aQ:=eq_true c8
        have aR:decide (aa≤(l0.length:Int))=true:=decide_eq_true c8
        clear c8
        obtain⟨ah,ae⟩:∃y_:List Int,y_=(l0.take (aa:Int).toNat):=⟨_,rfl⟩
        replace H:(some ah)=some r:=by first|(rw[ae];with_reducible exact H)|(have H2_:=(Option.bind_some _ _).symm.trans H;rw[ae];with_reducible exact H2_)|(have H2_:=(Option.bind_some _ _).symm.trans H;with_reducible exact H2_)|with_reducible exact H|(rw[ae];exact H)|exact H
        have ao:=Aside0.mk ae
        clear ae
        obtain rfl:=Option.some.inj H
        have ac:0≤((ji3):Int):=of_decide_eq_true ‹_›
        have ad:(ji3)<(l0.length:Int):=of_decide_eq_true ‹_›
        obtain⟨ag,al,ar⟩:=Kd.at_int (Kd.V_reads' ab.out).2.2 (ji3) ac ad
        cases al
        replace ac:=eq_true ac
        replace ad:=eq_true ad
        have q9:(aa:Int)≤((l0.length:Int):Int):=of_decide_eq_true ‹_›
        obtain⟨i09,au,_,aE,_⟩:=info_parts info127
        have ak:l0.length≤c0:=(Kd.V_reads' ab.out).2.1
        have hC9:Kd.F (Kd.int .u16) _ _ (some ag) l0.length l0:=(Kd.V_at (base:=w.heap.size) ab.out).2.2
        have ax:=cut_to (P:=Tryz.prog) 79 127 .i64 Tryz.underlying79 au (some ag) l0.length c0 aa (of_decide_eq_true ‹_›) q9 ak
        have hr9:=Kd.F_take (m:=(aa:Int).toNat) hC9 Z0
        have hy9:ah.length=(aa:Int).toNat:=(by rw[ao.out,List.length_take];omega)
        rw[←ao.out]at hr9
        rw[←hy9]at ax
        have ay:=Aside0.mk (show Kd.V (Kd.int .u16) 127 _ w.heap.size _ (.slice (some ag) ah.length c0) ah from Kd.V_mk Z0 hr9)
        have aG:=Aside0.mk (show ah.length≤c0 from by omega)
        clear hr9 hC9 ak au aE
        have KY9:=Aside0.mk hy9
        clear hy9
        replace q9:=eq_true q9
        go_wp2
        go_ret
        exact⟨_,Z2,kvu ay.out,khu HB.out⟩
       rw[if_neg c8]at H
       exact absurd H Z1
      rw[if_neg c7]at H
      exact absurd H Z1
     rw[if_neg c5]at H
     exact absurd H Z1
    rw[if_neg c4]at H
    exact absurd H Z1
   rw[if_neg c2]at H
   have aB:decide (0<aa)=false:=decide_eq_false c2
   clear c2
   by_cases c10:0≤aa
   ·rw[if_pos c10]at H
    have aH:=eq_true c10
    have aI:decide (0≤aa)=true:=decide_eq_true c10
    clear c10
    by_cases c11:aa≤(l0.length:Int)
    ·rw[if_pos c11]at H
     have aJ:=eq_true c11
     have aK:decide (aa≤(l0.length:Int))=true:=decide_eq_true c11
     clear c11
     obtain⟨ai,af⟩:∃y_:List Int,y_=(l0.take (aa:Int).toNat):=⟨_,rfl⟩
     replace H:(some ai)=some r:=by first|(rw[af];with_reducible exact H)|(have H2_:=(Option.bind_some _ _).symm.trans H;rw[af];with_reducible exact H2_)|(have H2_:=(Option.bind_some _ _).symm.trans H;with_reducible exact H2_)|with_reducible exact H|(rw[af];exact H)|exact H
     have ap:=Aside0.mk af
     clear af
     obtain rfl:=Option.some.inj H
     have q12:(aa:Int)≤((l0.length:Int):Int):=of_decide_eq_true ‹_›
     obtain⟨i012,aq,_,az,_⟩:=info_parts info127
     have aj:l0.length≤c0:=(Kd.V_reads' ab.out).2.1
     have av:Kd.F (Kd.int .u16) _ _ A0 l0.length l0:=(Kd.V_at (base:=w.heap.size) ab.out).2.2
     have aw:=cut_to (P:=Tryz.prog) 79 127 .i64 Tryz.underlying79 aq A0 l0.length c0 aa (of_decide_eq_true ‹_›) q12 aj
     have am:=Kd.F_take (m:=(aa:Int).toNat) av Z0
     have an:ai.length=(aa:Int).toNat:=(by rw[ap.out,List.length_take];omega)
     rw[←ap.out]at am
     rw[←an]at aw
     have aA:=Aside0.mk (show Kd.V (Kd.int .u16) 127 _ w.heap.size _ (.slice A0 ai.length c0) ai from Kd.V_mk Z0 am)
     have aL:=Aside0.mk (show ai.length≤c0 from by omega)
     clear am av aj aq az
     have aS:=Aside0.mk an
     clear an
     replace q12:=eq_true q12
     go_wp2
     go_ret
     exact⟨_,D0,kvu aA.out,khu HB.out⟩
    rw[if_neg c11]at H
    exact absurd H Z1
   rw[if_neg c10]at H
   exact absurd H Z1
def tribunalref02_Make.f (k:Nat) (a0:Bool) (l1:List Int):Option (Bool×List Int):=(tribunalref02_trim.f k l1).bind fun t936=>(if a0=true then(some (decide (0<t936.length),t936)) else(some (false,t936)))
theorem tribunalref02_Make.calls (k:Nat) (a0:Bool) (P1_:Nat→Prop) (A1:Option Addr) (c1:Nat) (l1:List Int) (r1:Bool) (r2:List Int) (w:World) (hs1:Kd.V (Kd.int .u16) 127 w w.heap.size (fun k_=>P1_ k_) (.slice A1 l1.length c1) l1) (h:tribunalref02_Make.f k a0 l1=some (r1,r2)) :
  Calls Tryz.prog 92 #[.bool a0,.slice A1 l1.length c1] w fun e w'=>∃v1_:Value,e=.returned (.agg #[.bool r1,v1_])∧Kd.V (Kd.int .u16) 127 w' w.heap.size (fun k_=>(P1_ k_∨w.heap.size≤k_)) v1_ r2∧Below w.heap.size w w':=by
 have au:=Tryz.underlying81
 have HO1:=Aside0.mk (show Kd.V (Kd.int .u16) 127 w w.heap.size (fun k_=>(P1_ k_∨w.heap.size≤k_)) (.slice A1 l1.length c1) l1 from Kd.V_mono hs1 (fun k_ hk=>.inl hk))
 have HB:=Aside0.mk (Below.refl w.heap.size w)
 have H:((tribunalref02_trim.f k l1).bind fun ac=>(if a0=true then(some (decide (0<ac.length),ac)) else(some (false,ac))))=some (r1,r2):=h
 clear h
 replace H:=Option.bind_eq_some_iff.mp H
 obtain⟨ac,A30,H⟩:=H
 replace H:(if a0=true then(some (decide (0<ac.length),ac)) else(some (false,ac)))=some (r1,r2):=H
 have A3:=Aside0.mk A30
 clear A30
 by_cases c4:a0=true
 ·subst c4
  have H1:(some (decide (0<ac.length),ac))=some (r1,r2):=by rw[if_pos rfl]at H;exact H
  clear H
  have H:=H1
  clear H1
  simp only[Option.some.injEq,Prod.mk.injEq]at H
  obtain⟨rfl,rfl⟩:=H
  go_enter Tryz.func92,Tryz.ntmps92
  go_wp2_with (first|(refine gd 4 rfl ?_;(try(refine gate_guard F0 ?_;dsimp only));refine kbe 4 #[.bool false,.slice none 0 0] 81 ?_;intro aa hg w5 hbox hb;replace HO1:=Aside0.mk (Kd.V_below (Kd.V_elderB (kvu HO1.out) aa (Nat.le_of_eq hg.symm)) hb);have ab:=Aside0.mk (hbox);have ah:=kbz hg HB;have ae:=kbz hg HB;replace HB:=kbs HB hb;clear hb hbox hg)|((with_reducible refine gate_callee (f:=155) rfl ?_);refine kgl (some 6) rfl rfl Tryz.func155 #[.slice A1 l1.length c1] rfl ?_;(with_reducible refine(tribunalref02_trim.calls k (fun k_=>((P1_ k_∨w.heap.size≤k_)∧k_≠aa)) _ _ l1 ac _ ?side1 A3.out).mono ?_);(case side1=>exact HO1.out);rintro e w6 ⟨ai,rfl,ho0,hb⟩;refine⟨_,rfl,?_⟩;replace HO1:=kvb HO1 hb;have ad:=Aside0.mk (Kd.V_lower (Kd.V_mono (ok':=fun k_=>(P1_ k_∨w.heap.size≤k_)∧k_≠aa) ho0 (fun k_ hk_=>⟨Or.elim hk_ (fun hs_=>hs_.1) (fun hn_=>(.inr (Nat.le_trans (below_size (khu HB.out)) hn_))),Or.elim hk_ (fun hs_=>hs_.2) (kfb ab)⟩)) (below_size (khu HB.out)));replace ab:=kbb ab hb;replace HB:=kbs HB hb;(try clear hb);(try clear hb2);(try clear hk);(try clear hi);(try clear ho0);obtain⟨Ao7,co7,eo7⟩:=Kd.V_slice ad.out;subst eo7;have ao:w6.cell? ⟨aa,0,none⟩=some (.bool false):=(blk_cell ab.out 0).trans rfl;have ap:w6.cell? ⟨aa,1,none⟩=some (.slice none 0 0):=(blk_cell ab.out 1).trans rfl;have aq:=blk_frozen ab.out 0;have ar:=blk_frozen ab.out 1))
  refine bodyPost_ret (results_cell_row rfl _ _ aa 81 #[.bool (decide (0<ac.length)),.slice Ao7 ac.length co7] (0,0) _ rfl (kpu #[.bool (decide (0<ac.length)),.slice none 0 0] 1 (kpu #[.bool false,.slice none 0 0] 0 (kbu ab.out))) Tryz.underlying81 rfl Y0) rfl ?_
  exact⟨_,D0,by(with_reducible repeat (first|apply Kd.V_alloc|apply Kd.V_drewN|apply Kd.V_drew));exact Kd.V_mono (Kd.V_far (p:=⟨aa,1,none⟩) (Kd.V_far (p:=⟨aa,0,none⟩) (Kd.V_mono ad.out (fun k_ hk=>(⟨hk,hk.2⟩:_∧k_≠aa))) (fun _ hk=>hk.2) (.bool (decide (0<ac.length)))) (fun _ hk=>hk.2) (.slice Ao7 ac.length co7)) (fun _ hk=>hk.1.1),by repeat (first|(with_reducible first|exact HB.out|apply below_alloc|apply pw_below_drewN|apply below_drew1|refine below_set ?_ ae.out)|exact HB.out)⟩
 replace c4:=Bool.eq_false_iff.mpr c4
 subst c4
 have H1:(some (false,ac))=some (r1,r2):=by rw[if_neg (show ¬(false=true) by decide)]at H;exact H
 clear H
 have H:=H1
 clear H1
 simp only[Option.some.injEq,Prod.mk.injEq]at H
 obtain⟨rfl,rfl⟩:=H
 go_enter Tryz.func92,Tryz.ntmps92
 go_wp2_with (first|(refine gd 4 rfl ?_;(try(refine gate_guard F0 ?_;dsimp only));refine kbe 4 #[.bool false,.slice none 0 0] 81 ?_;intro aa hg w9 hbox hb;replace HO1:=Aside0.mk (Kd.V_below (Kd.V_elderB (kvu HO1.out) aa (Nat.le_of_eq hg.symm)) hb);have ab:=Aside0.mk (hbox);have ah:=kbz hg HB;have ae:=kbz hg HB;replace HB:=kbs HB hb;clear hb hbox hg)|((with_reducible refine gate_callee (f:=155) rfl ?_);refine kgl (some 6) rfl rfl Tryz.func155 #[.slice A1 l1.length c1] rfl ?_;(with_reducible refine(tribunalref02_trim.calls k (fun k_=>((P1_ k_∨w.heap.size≤k_)∧k_≠aa)) _ _ l1 ac _ ?side1 A3.out).mono ?_);(case side1=>exact HO1.out);rintro e w10 ⟨ai,rfl,ho0,hb⟩;refine⟨_,rfl,?_⟩;replace HO1:=kvb HO1 hb;have ad:=Aside0.mk (Kd.V_lower (Kd.V_mono (ok':=fun k_=>(P1_ k_∨w.heap.size≤k_)∧k_≠aa) ho0 (fun k_ hk_=>⟨Or.elim hk_ (fun hs_=>hs_.1) (fun hn_=>(.inr (Nat.le_trans (below_size (khu HB.out)) hn_))),Or.elim hk_ (fun hs_=>hs_.2) (kfb ab)⟩)) (below_size (khu HB.out)));replace ab:=kbb ab hb;replace HB:=kbs HB hb;(try clear hb);(try clear hb2);(try clear hk);(try clear hi);(try clear ho0);obtain⟨af,ag,aj⟩:=Kd.V_slice ad.out;subst aj;have ak:w10.cell? ⟨aa,0,none⟩=some (.bool false):=(blk_cell ab.out 0).trans rfl;have al:w10.cell? ⟨aa,1,none⟩=some (.slice none 0 0):=(blk_cell ab.out 1).trans rfl;have am:=blk_frozen ab.out 0;have an:=blk_frozen ab.out 1))
 refine bodyPost_ret (results_cell_row rfl _ _ aa 81 #[.bool false,.slice af ac.length ag] (0,0) _ rfl (kpu #[.bool false,.slice none 0 0] 1 (kpu #[.bool false,.slice none 0 0] 0 (kbu ab.out))) Tryz.underlying81 rfl Y0) rfl ?_
 exact⟨_,D0,by(with_reducible repeat (first|apply Kd.V_alloc|apply Kd.V_drewN|apply Kd.V_drew));exact Kd.V_mono (Kd.V_far (p:=⟨aa,1,none⟩) (Kd.V_far (p:=⟨aa,0,none⟩) (Kd.V_mono ad.out (fun k_ hk=>(⟨hk,hk.2⟩:_∧k_≠aa))) (fun _ hk=>hk.2) (.bool false)) (fun _ hk=>hk.2) (.slice af ac.length ag)) (fun _ hk=>hk.1.1),by repeat (first|(with_reducible first|exact HB.out|apply below_alloc|apply pw_below_drewN|apply below_drew1|refine below_set ?_ ae.out)|exact HB.out)⟩
def tribunalref02_From.l0:Nat→List Int→Int→Bool→List Int→Option (Bool×List Int)
 | 0,_,_,_,_=>none
 | k+1,x3,x4,x940000,x940001=>if x4<(x940001.length:Int) then(if 0≤x4 then((some (([IntKind.u16.wrap (rd x940001 x4),IntKind.u16.wrap ((rd x940001 x4)/65536),IntKind.u16.wrap ((rd x940001 x4)/4294967296),IntKind.u16.wrap ((rd x940001 x4)/281474976710656)]:List Int):List Int)).bind fun y942=>(if x3.length+y942.length<70368744177664 then(tribunalref02_From.l0 k (x3++y942) (wrap64 (x4+1)) x940000 x940001) else(none))) else(none)) else((tribunalref02_Make.f k x940000 x3).bind fun bt948=>(some (bt948.1,bt948.2)))
def tribunalref02_From.f (k:Nat) (a0_0:Bool) (l0_1:List Int):Option (Bool×List Int):=tribunalref02_From.l0 k ([]:List Int) 0 a0_0 l0_1
theorem tribunalref02_From.calls (k:Nat) (ae:Bool) (am:Option Addr) (ai:Nat) (aa:List Int) (r1:Bool) (r2:List Int) (w:World) (aA:Kd.C (Kd.int .u64) w am aa.length aa) (aC:aa.length≤ai) (h:tribunalref02_From.f k ae aa=some (r1,r2)) :
  Calls Tryz.prog 49 #[.agg #[.bool ae,.slice am aa.length ai]] w fun e w'=>∃v1_:Value,e=.returned (.agg #[.bool r1,v1_])∧Kd.V (Kd.int .u16) 127 w' w.heap.size (fun k_=>(w.heap.size≤k_)) v1_ r2∧Below w.heap.size w w':=by
 have bx:=Tryz.underlying43
 have bz:=Tryz.underlying81
 have aN:=Aside0.mk aA
 have bq:=Aside0.mk aC
 clear aA aC
 have HB:=Aside0.mk (Below.refl w.heap.size w)
 have H:(tribunalref02_From.l0 k ([]:List Int) 0 ae aa)=some (r1,r2):=h
 clear h
 have H':=Aside0.mk H
 clear H
 go_enter Tryz.func49,Tryz.ntmps49
 go_wp2_with (first|(refine gd 1 rfl ?_;refine kbe 1 #[.bool ae,.slice am aa.length ai] 43 ?_;intro ah hg w2 hbox hb;have ab:=Aside0.mk (hbox);have br:=kbz hg HB;have av:=kbz hg HB;replace HB:=kbs HB hb;clear hb hbox hg)|(refine gd 2 rfl ?_;refine kbe 2 #[.bool false,.slice none 0 0] 81 ?_;intro af hg w3 hbox hb;have ad:=Aside0.mk (hbox);have bu:=kbz hg HB;have aw:=kbz hg HB;replace HB:=kbs HB hb;have aq:=knl hg ab;have ar:=kng hg ab;replace ab:=kbb ab hb;clear hb hbox hg))
 go_loopg [3,4] k (fun kq v3 v4 w'=>∃(ag:List Int) (ac:Int),v4=.int .i64 ac∧Aside0 (tribunalref02_From.l0 kq ag ac ae aa=some (r1,r2))∧Aside0 (kq≤k)∧Aside0 (Kd.R (Kd.int .u16) 127 w' w.heap.size (fun k_=>(w.heap.size≤k_)) v3 ag)∧Aside0 (w'.heap[ah]? = some (.cells #[.bool ae,(.slice am aa.length ai)] 43 (0,0)))∧Aside0 (w'.heap[af]? = some (.cells #[.bool false,(.slice none 0 0)] 81 (0,0)))∧Aside0 (Below w.heap.size w w'))
 case atStart=>exact⟨(([]:List Int)),(0),J0,H',⟨Nat.le_refl _⟩,⟨F1⟩,⟨by(with_reducible repeat (first|refine blk_drewN ?_ _|refine blk_drew ?_|refine blk_alloc ?_ _));exact ab.out⟩,⟨by(with_reducible repeat (first|refine blk_drewN ?_ _|refine blk_drew ?_|refine blk_alloc ?_ _));exact ad.out⟩,⟨by repeat (first|(with_reducible first|exact HB.out|apply below_alloc|apply pw_below_drewN|apply below_drew1|refine below_set ?_ av.out|refine below_set ?_ aw.out)|exact HB.out)⟩⟩
 case round=>
  clear H'
  try clear p2
  obtain⟨ag,ac,rfl,HA,HK1,HO_3,ab,ad,HB⟩:=hrel
  cases gk with
  | zero=>exact absurd HA.out (by simp[tribunalref02_From.l0])
  | succ k1=>
   have H:=HA.out
   clear HA
   simp only[tribunalref02_From.l0]at H
   by_cases c4:ac<(aa.length:Int)
   ·rw[if_pos c4]at H
    have aU:decide (ac<(aa.length:Int))=true:=decide_eq_true c4
    clear c4
    by_cases c5:0≤ac
    ·rw[if_pos c5]at H
     have bA:decide (0≤ac)=true:=decide_eq_true c5
     clear c5
     obtain⟨an,aj⟩:∃y_:List Int,y_=(([IntKind.u16.wrap (rd aa ac),IntKind.u16.wrap ((rd aa ac)/65536),IntKind.u16.wrap ((rd aa ac)/4294967296),IntKind.u16.wrap ((rd aa ac)/281474976710656)]:List Int)):=⟨_,rfl⟩
     replace H:(if ag.length+an.length<70368744177664 then(tribunalref02_From.l0 k1 (ag++an) (wrap64 (ac+1)) ae aa) else(none))=some (r1,r2):=by first|(rw[aj];with_reducible exact H)|(have H2_:=(Option.bind_some _ _).symm.trans H;rw[aj];with_reducible exact H2_)|(have H2_:=(Option.bind_some _ _).symm.trans H;with_reducible exact H2_)|with_reducible exact H|(rw[aj];exact H)|exact H
     have aD:=Aside0.mk aj
     clear aj
     by_cases c6:ag.length+an.length<70368744177664
     ·rw[if_pos c6]at H
      have aV:=Aside0.mk c6
      clear c6
      obtain⟨aG,ak⟩:∃y_:List Int,y_=(ag++an):=⟨_,rfl⟩
      replace H:(tribunalref02_From.l0 k1 aG (wrap64 (ac+1)) ae aa)=some (r1,r2):=by first|(rw[ak];with_reducible exact H)|(have H2_:=(Option.bind_some _ _).symm.trans H;rw[ak];with_reducible exact H2_)|(have H2_:=(Option.bind_some _ _).symm.trans H;with_reducible exact H2_)|with_reducible exact H|(rw[ak];exact H)|exact H
      have aP:=Aside0.mk ak
      clear ak
      have H':=Aside0.mk H
      clear H
      have bB:=aq.out
      have bC:=ar.out
      have bl:wr.cell? ⟨ah,0,none⟩=some (.bool ae):=(blk_cell ab.out 0).trans rfl
      have bn:wr.cell? ⟨ah,1,none⟩=some (.slice am aa.length ai):=(blk_cell ab.out 1).trans rfl
      have bo:=blk_frozen ab.out 0
      have bp:=blk_frozen ab.out 1
      have ay:0≤(ac:Int):=of_decide_eq_true ‹_›
      have az:ac<(aa.length:Int):=of_decide_eq_true ‹_›
      obtain⟨aQ,aW,ao⟩:=Kd.at_int aN.out ac ay az
      cases aW
      replace ao:=(HB.out.cell (World.block_lt_of_cell? w _ ao)).trans ao
      replace ay:=eq_true ay
      replace az:=eq_true az
      go_wp2_with (first|(refine gd 30 rfl ?_;refine Kd.R_lit (Kd.int .u16) _ 127 ?hg (N:=30) ?hd (xs:=([IntKind.u16.wrap (rd aa ac),IntKind.u16.wrap ((rd aa ac)/65536),IntKind.u16.wrap ((rd aa ac)/4294967296),IntKind.u16.wrap ((rd aa ac)/281474976710656)]:List Int)) (inner:=[.int .u16 (IntKind.u16.wrap (rd aa ac)),.int .u16 (IntKind.u16.wrap ((rd aa ac)/65536)),.int .u16 (IntKind.u16.wrap ((rd aa ac)/4294967296)),.int .u16 (IntKind.u16.wrap ((rd aa ac)/281474976710656))]) (ok:=fun _=>True) (okp:=fun _=>True) ?hr ?hp (fun _ hk=>hk) trivial (Below.refl _ _) (Nat.le_refl _) Z1 ?_;(case hd=>rfl);(case hg=>rfl);(case hr=>first|(go_simp;done)|(go_simp;rfl));(case hp=>exact(Reps.one (show Kd.M (Kd.int .u16) _ _ _ (IntKind.u16.wrap (rd aa ac)) [.int .u16 (IntKind.u16.wrap (rd aa ac))] from rfl) (Reps.one (show Kd.M (Kd.int .u16) _ _ _ (IntKind.u16.wrap ((rd aa ac)/65536)) [.int .u16 (IntKind.u16.wrap ((rd aa ac)/65536))] from rfl) (Reps.one (show Kd.M (Kd.int .u16) _ _ _ (IntKind.u16.wrap ((rd aa ac)/4294967296)) [.int .u16 (IntKind.u16.wrap ((rd aa ac)/4294967296))] from rfl) (Reps.one (show Kd.M (Kd.int .u16) _ _ _ (IntKind.u16.wrap ((rd aa ac)/281474976710656)) [.int .u16 (IntKind.u16.wrap ((rd aa ac)/281474976710656))] from rfl) (Reps.none _ _))))));intro bD w9 ap hb hg_ hnew_;clear hg_ hnew_;(first|rw[←aD.out]at ap|(simp only[Int.reduceToNat]at ap;rw[←aD.out]at ap));have al:=Aside0.mk (Kd.R_lower (Kd.R_new' (Kd.R_newM (M:=fun k_=>(w.heap.size≤k_)) ap (below_size (khu HB.out)) (fun k_ h_=>h_)) (Kd.R_lt (kru HO_3.out))) (below_size (khu HB.out)));replace HO_3:=Aside0.mk (Kd.R_elder' (kru HO_3.out) (Kd.R_base ap) hb);replace ab:=kbb ab hb;replace ad:=kbb ad hb;replace HB:=kbs HB hb;clear hb ap;obtain⟨aX,aY,aZ⟩:=Kd.R_slice al.out;subst aZ)|((with_reducible refine gate_builtin (b:=.append) (xs:=#[.tmp 18,.tmp 30]) rfl ?_);at_builtin;refine Kd.R_append_rows (Kd.int .u16) (w0:=w) w.heap.size rfl (.tmp 18) (.tmp 30) 79 127 (.int .u16 0) 2 rfl Tryz.underlying79 info127 rfl X0 Z0 u3 ag an _ _ _ (fun k_=>(w.heap.size≤k_)∧some k_≠(.slice aX an.length aY:Value).ownBlock) (fun _=>False) rfl rfl ?aO ?aR (fun _ _ h=>h) (fun _ h=>h.elim) ?aF ?aB ?aS ?aL ?_;(case aR=>repeat (first|exact(Kd.R_reads' al.out).2.2|(with_reducible refine Kd.C_alloc ?_ _)|(with_reducible refine Kd.C_drewN ?_ _)|(with_reducible refine Kd.C_drew ?_)));(case aB=>exact(khu HB.out));(case aF=>exact(fun k_ hk=>⟨(Nat.le_trans (below_size (khu HB.out)) hk),Kd.fresh' (Kd.R_lt (kru al.out)) k_ hk⟩));(case aO=>exact(kru HO_3.out));(case aS=>exact(below_size (khu HB.out)));(case aL=>have:=aV.out;omega);intro bE w11 ho hb hg hat;rw[←aP.out]at ho;replace ab:=Aside0.mk (blk_grown (g:=ah) (o:=.cells #[.bool ae,.slice (some aQ) aa.length ai] 43 (0,0)) (kbu ab.out) hg (Kd.R_ne HO_3.out ab.out X0));replace ad:=Aside0.mk (blk_grown (g:=af) (o:=.cells #[.bool false,.slice none 0 0] 81 (0,0)) (kbu ad.out) hg (Kd.R_ne HO_3.out ad.out X0));replace al:=Aside0.mk (Kd.R_after (ok:=(fun k_=>(w.heap.size≤k_))) (by(with_reducible repeat (first|apply Kd.R_alloc|apply Kd.R_drewN|apply Kd.R_drew));exact Kd.R_mono al.out (fun _ hk=>⟨hk.1.1,hk.2⟩)) hg hat);replace HB:=Aside0.mk (hb);have aT:=Aside0.mk (ho);clear HO_3;clear ho hb hg hat))
      go_roundg k1
      case measure=>have:=HK1.out;omega
      case rel=>exact⟨(aG),(wrap64 (ac+1)),J0,H',⟨X2⟩,⟨by(with_reducible repeat (first|apply Kd.R_alloc|apply Kd.R_drewN|apply Kd.R_drew));exact Kd.R_mono aT.out (fun _ hk=>hk.1)⟩,⟨by(with_reducible repeat (first|refine blk_drewN ?_ _|refine blk_drew ?_|refine blk_alloc ?_ _));exact ab.out⟩,⟨by(with_reducible repeat (first|refine blk_drewN ?_ _|refine blk_drew ?_|refine blk_alloc ?_ _));exact ad.out⟩,⟨by repeat (first|(with_reducible first|exact HB.out|apply below_alloc|apply pw_below_drewN|apply below_drew1|refine below_set ?_ av.out|refine below_set ?_ aw.out)|exact HB.out)⟩⟩
     rw[if_neg c6]at H
     exact absurd H Z1
    rw[if_neg c5]at H
    exact absurd H Z1
   rw[if_neg c4]at H
   have aU:decide (ac<(aa.length:Int))=false:=decide_eq_false c4
   clear c4
   replace H:=Option.bind_eq_some_iff.mp H
   obtain⟨⟨au,ax⟩,aH,H⟩:=H
   replace H:(some (au,ax))=some (r1,r2):=H
   have A13:=Aside0.mk aH
   clear aH
   simp only[Option.some.injEq,Prod.mk.injEq]at H
   obtain⟨rfl,rfl⟩:=H
   have bv:=aq.out
   have bw:=ar.out
   have bd:wr.cell? ⟨ah,0,none⟩=some (.bool ae):=(blk_cell ab.out 0).trans rfl
   have be:wr.cell? ⟨ah,1,none⟩=some (.slice am aa.length ai):=(blk_cell ab.out 1).trans rfl
   have bf:=blk_frozen ab.out 0
   have bg:=blk_frozen ab.out 1
   obtain⟨aI,aJ,bb⟩:=Kd.R_slice HO_3.out
   subst bb
   go_wp2_with (first|((with_reducible refine gate_callee (f:=92) rfl ?_);refine kgl (some 35) rfl rfl Tryz.func92 #[.bool ae,.slice aI ag.length aJ] rfl ?_;(with_reducible refine(tribunalref02_Make.calls k1 ae (fun k_=>some k_=(.slice aI ag.length aJ:Value).ownBlock) _ _ ag au ax _ ?side1 A13.out).mono ?_);(case side1=>exact Kd.R_V (Kd.R_tight rfl (Kd.R_types (Kd.R_types (HO_3.out) ab.out X0) ad.out X0)));rintro e w17 ⟨bF,rfl,ho0,hb⟩;refine⟨_,rfl,?_⟩;have aE:=Aside0.mk (Kd.V_lower (Kd.V_mono (ok':=fun k_=>(w.heap.size≤k_)∧k_≠ah∧k_≠af) ho0 (fun k_ hk_=>⟨Or.elim hk_ (fun hs_=>((Kd.R_types (Kd.R_types (HO_3.out) ab.out X0) ad.out X0).1 k_ hs_.symm).1.1) (fun hn_=>(Nat.le_trans (below_size (khu HB.out)) hn_)),Or.elim hk_ (fun hs_=>((Kd.R_types (Kd.R_types (HO_3.out) ab.out X0) ad.out X0).1 k_ hs_.symm).1.2) (kfb ab),Or.elim hk_ (fun hs_=>((Kd.R_types (Kd.R_types (HO_3.out) ab.out X0) ad.out X0).1 k_ hs_.symm).2) (kfb ad)⟩)) (below_size (khu HB.out)));replace HO_3:=krb HO_3 hb;replace ab:=kbb ab hb;replace ad:=kbb ad hb;replace HB:=kbs HB hb;(try clear hb);(try clear hb2);(try clear hk);(try clear hi);(try clear ho0);have bh:w17.cell? ⟨af,0,none⟩=some (.bool false):=(blk_cell ad.out 0).trans rfl;have bi:w17.cell? ⟨af,1,none⟩=some (.slice none 0 0):=(blk_cell ad.out 1).trans rfl;have bj:=blk_frozen ad.out 0;have bk:=blk_frozen ad.out 1;obtain⟨aK,aM,bc⟩:=Kd.V_slice aE.out;subst bc))
   refine bodyPost_ret (results_cell_row rfl _ _ af 81 #[.bool au,.slice aK ax.length aM] (0,0) _ rfl (kpu #[.bool au,.slice none 0 0] 1 (kpu #[.bool false,.slice none 0 0] 0 (kbu ad.out))) Tryz.underlying81 rfl Y0) rfl ?_
   exact⟨_,D0,by(with_reducible repeat (first|apply Kd.V_alloc|apply Kd.V_drewN|apply Kd.V_drew));exact Kd.V_mono (Kd.V_far (p:=⟨af,1,none⟩) (Kd.V_far (p:=⟨af,0,none⟩) (Kd.V_mono aE.out (fun k_ hk=>(⟨hk,hk.2.2⟩:_∧k_≠af))) (fun _ hk=>hk.2) (.bool au)) (fun _ hk=>hk.2) (.slice aK ax.length aM)) (fun _ hk=>hk.1.1),by repeat (first|(with_reducible first|exact HB.out|apply below_alloc|apply pw_below_drewN|apply below_drew1|refine below_set ?_ av.out|refine below_set ?_ aw.out)|exact HB.out)⟩
def tribunalref09_Power.f (k:Nat) (a0:Int):Option (Bool×List Int):=if 0≤(wrap64 ((wrap64 (Int.tdiv a0 64))+1)) then(if(wrap64 ((wrap64 (Int.tdiv a0 64))+1):Int).toNat≤35184372088832 then((some (List.replicate (wrap64 ((wrap64 (Int.tdiv a0 64))+1):Int).toNat 0:List Int)).bind fun y961=>(if 0≤(IntKind.u64.wrap (Int.tmod a0 64)) then(if 0≤(wrap64 (Int.tdiv a0 64)) then(if(wrap64 (Int.tdiv a0 64))<(y961.length:Int) then((tribunalref02_From.f k false (y961.set ((wrap64 (Int.tdiv a0 64)):Int).toNat (shl .u64 1 (IntKind.u64.wrap (Int.tmod a0 64))))).bind fun bt965=>(some (bt965.1,bt965.2))) else(none)) else(none)) else(none))) else(none)) else(none)
theorem tribunalref09_Power.calls (k:Nat) (a0:Int) (r1:Bool) (r2:List Int) (w:World) (h:tribunalref09_Power.f k a0=some (r1,r2)) :
  Calls Tryz.prog 79 #[.int .i64 a0] w fun e w'=>∃v1_:Value,e=.returned (.agg #[.bool r1,v1_])∧Kd.V (Kd.int .u16) 127 w' w.heap.size (fun k_=>(w.heap.size≤k_)) v1_ r2∧Below w.heap.size w w':=by
 have aT:=Tryz.underlying81
 have aU:=Tryz.underlying43
 have HB:=Aside0.mk (Below.refl w.heap.size w)
 have H:(if 0≤(wrap64 ((wrap64 (Int.tdiv a0 64))+1)) then(if(wrap64 ((wrap64 (Int.tdiv a0 64))+1):Int).toNat≤35184372088832 then((some (List.replicate (wrap64 ((wrap64 (Int.tdiv a0 64))+1):Int).toNat 0:List Int)).bind fun ab=>(if 0≤(IntKind.u64.wrap (Int.tmod a0 64)) then(if 0≤(wrap64 (Int.tdiv a0 64)) then(if(wrap64 (Int.tdiv a0 64))<(ab.length:Int) then((tribunalref02_From.f k false (ab.set ((wrap64 (Int.tdiv a0 64)):Int).toNat (shl .u64 1 (IntKind.u64.wrap (Int.tmod a0 64))))).bind fun aa=>(some (aa.1,aa.2))) else(none)) else(none)) else(none))) else(none)) else(none))=some (r1,r2):=h
 clear h
 obtain⟨ji2,an⟩:∃j_:Int,(wrap64 ((wrap64 (Int.tdiv a0 64))+1))=j_:=⟨_,rfl⟩
 replace H:(if 0≤(ji2) then(if(ji2:Int).toNat≤35184372088832 then((some (List.replicate (ji2:Int).toNat 0:List Int)).bind fun ab=>(if 0≤(IntKind.u64.wrap (Int.tmod a0 64)) then(if 0≤(wrap64 (Int.tdiv a0 64)) then(if(wrap64 (Int.tdiv a0 64))<(ab.length:Int) then((tribunalref02_From.f k false (ab.set ((wrap64 (Int.tdiv a0 64)):Int).toNat (shl .u64 1 (IntKind.u64.wrap (Int.tmod a0 64))))).bind fun aa=>(some (aa.1,aa.2))) else(none)) else(none)) else(none))) else(none)) else(none))=some (r1,r2):=by first|(rw[an]at H;exact H)|(simp only[an]at H ⊢;exact H)
 have aO:(IntKind.i64.wrap ((wrap64 (Int.tdiv a0 64))+1))=ji2:=(i64_w _).trans an
 by_cases c3:0≤(ji2)
 ·rw [if_pos c3]at H
  have aV:=eq_true c3
  have aW:decide (0≤(ji2))=true:=decide_eq_true c3
  clear c3
  by_cases c4:(ji2:Int).toNat≤35184372088832
  ·rw [if_pos c4]at H
   have aX:=eq_true c4
   have aY:decide ((ji2:Int).toNat≤35184372088832)=true:=decide_eq_true c4
   clear c4
   obtain⟨ab,ag⟩:∃y_:List Int,y_=(List.replicate (ji2:Int).toNat 0):=⟨_,rfl⟩
   replace H:(if 0≤(IntKind.u64.wrap (Int.tmod a0 64)) then(if 0≤(wrap64 (Int.tdiv a0 64)) then(if(wrap64 (Int.tdiv a0 64))<(ab.length:Int) then((tribunalref02_From.f k false (ab.set ((wrap64 (Int.tdiv a0 64)):Int).toNat (shl .u64 1 (IntKind.u64.wrap (Int.tmod a0 64))))).bind fun aa=>(some (aa.1,aa.2))) else(none)) else(none)) else(none))=some (r1,r2):=by first|(rw[ag];with_reducible exact H)|(have H2_:=(Option.bind_some _ _).symm.trans H;rw[ag];with_reducible exact H2_)|(have H2_:=(Option.bind_some _ _).symm.trans H;with_reducible exact H2_)|with_reducible exact H|(rw[ag];exact H)|exact H
   have au:=Aside0.mk ag
   clear ag
   obtain⟨ji5,hji5⟩:∃j_:Int,(IntKind.u64.wrap (Int.tmod a0 64))=j_:=⟨_,rfl⟩
   replace H:(if 0≤(ji5) then(if 0≤(wrap64 (Int.tdiv a0 64)) then(if(wrap64 (Int.tdiv a0 64))<(ab.length:Int) then((tribunalref02_From.f k false (ab.set ((wrap64 (Int.tdiv a0 64)):Int).toNat (shl .u64 1 (ji5)))).bind fun aa=>(some (aa.1,aa.2))) else(none)) else(none)) else(none))=some (r1,r2):=by first|(rw[hji5]at H;exact H)|(simp only[hji5]at H ⊢;exact H)
   by_cases c6:0≤(ji5)
   ·rw[if_pos c6]at H
    have aZ:=eq_true c6
    have bb:decide (0≤(ji5))=true:=decide_eq_true c6
    clear c6
    obtain⟨ji7,aj⟩:∃j_:Int,(shl .u64 1 (ji5))=j_:=⟨_,rfl⟩
    replace H:(if 0≤(wrap64 (Int.tdiv a0 64)) then(if(wrap64 (Int.tdiv a0 64))<(ab.length:Int) then((tribunalref02_From.f k false (ab.set ((wrap64 (Int.tdiv a0 64)):Int).toNat (ji7))).bind fun aa=>(some (aa.1,aa.2))) else(none)) else(none))=some (r1,r2):=by first|(rw[aj]at H;exact H)|(simp only[aj]at H ⊢;exact H)
    have hji7_:(IntKind.u64.wrap (1*2^min (ji5).toNat 64))=ji7:=aj
    have aC:(ji5)≤64→(IntKind.u64.wrap (1*2^(ji5).toNat))=ji7:=shl_small aj
    have aP:(IntKind.u64.wrap (2^min (ji5).toNat 64))=ji7:=by have h_:=hji7_;rw[Int.one_mul]at h_;exact h_
    have aQ:(ji5)≤64→(IntKind.u64.wrap (2^(ji5).toNat))=ji7:=fun hle_=>by have h_:=aC hle_;rw[Int.one_mul]at h_;exact h_
    obtain⟨ji8,af⟩:∃j_:Int,(wrap64 (Int.tdiv a0 64))=j_:=⟨_,rfl⟩
    replace H:(if 0≤(ji8) then(if(ji8)<(ab.length:Int) then((tribunalref02_From.f k false (ab.set ((ji8):Int).toNat (ji7))).bind fun aa=>(some (aa.1,aa.2))) else(none)) else(none))=some (r1,r2):=by first|(rw[af]at H;exact H)|(simp only[af]at H ⊢;exact H)
    have ao:(IntKind.i64.wrap (Int.tdiv a0 64))=ji8:=(i64_w _).trans af
    by_cases c9:0≤(ji8)
    ·rw[if_pos c9]at H
     have bc:decide (0≤(ji8))=true:=decide_eq_true c9
     clear c9
     by_cases c10:(ji8)<(ab.length:Int)
     ·rw[if_pos c10]at H
      have aR:decide ((ji8)<(ab.length:Int))=true:=decide_eq_true c10
      clear c10
      obtain⟨ai,ah⟩:∃y_:List Int,y_=(ab.set ((ji8):Int).toNat (ji7)):=⟨_,rfl⟩
      replace H:((tribunalref02_From.f k false ai).bind fun aa=>(some (aa.1,aa.2)))=some (r1,r2):=by first|(rw[ah];with_reducible exact H)|(have H2_:=(Option.bind_some _ _).symm.trans H;rw[ah];with_reducible exact H2_)|(have H2_:=(Option.bind_some _ _).symm.trans H;with_reducible exact H2_)|with_reducible exact H|(rw[ah];exact H)|exact H
      have aD:=Aside0.mk ah
      clear ah
      replace H:=Option.bind_eq_some_iff.mp H
      obtain⟨⟨ak,ap⟩,aw,H⟩:=H
      replace H:(some (ak,ap))=some (r1,r2):=H
      have A12:=Aside0.mk aw
      clear aw
      simp only[Option.some.injEq,Prod.mk.injEq]at H
      obtain⟨rfl,rfl⟩:=H
      have hjx_:=Aside0.mk af
      have hjw_:=Aside0.mk ao
      clear af ao
      go_enter Tryz.func79,Tryz.ntmps79
      go_wp2_with (first|(refine gd 2 rfl ?_;refine kbe 2 #[.bool false,.slice none 0 0] 81 ?_;intro ae hg w13 hbox hb;have ad:=Aside0.mk (hbox);have aS:=kbz hg HB;have aE:=kbz hg HB;replace HB:=kbs HB hb;clear hb hbox hg)|(refine gd 7 rfl ?_;refine Kd.R_make (Kd.int .u64) _ 48 rfl (N:=7) rfl 26 _ _ rfl ji2 rfl rfl Tryz.underlying26 (.int .u64 0) 8 info48 rfl X0 Z0 0 (ok:=fun _=>True) (okp:=fun _=>True) rfl (fun _ hk=>hk) trivial (of_decide_eq_true ‹_›) (Nat.le_trans (Nat.mul_le_mul_right _ (of_decide_eq_true ‹_›:ji2.toNat≤35184372088832)) Z0) (Below.refl _ _) (Nat.le_refl _) ?_;intro bd w14 al hb hg_ hnew_;clear hg_ hnew_;(first|rw[←au.out]at al|(simp only[Int.reduceToNat]at al;rw[←au.out]at al));have af:=hjx_.out;have ao:=hjw_.out;have ac:=Aside0.mk (Kd.R_lower (Kd.R_newM (M:=fun k_=>(w.heap.size≤k_)) al (below_size (khu HB.out)) (fun k_ h_=>h_)) (below_size (khu HB.out)));replace ad:=kbb ad hb;replace HB:=kbs HB hb;clear hb al;have p11:0≤((ji8):Int):=of_decide_eq_true ‹_›;have q11:((ji8):Int)<((ab.length:Int):Int):=of_decide_eq_true ‹_›;obtain⟨am,aq,ax,ay,aF,be,az⟩:=Kd.R_form ac.out Z0;(first|cases ax|(injection ax with ea_ en_ ec_;(first|subst ea_|(injection ea_ with ea_;subst ea_));subst ec_;clear en_));have aG:=Aside0.mk ay;have bf:=Aside0.mk az;clear ay aF az;obtain⟨aM,aN⟩:=Kd.R_celln 0 ac.out ((ji8):Int) p11 q11;replace p11:=eq_true p11;replace q11:=eq_true q11;have n_:=Aside0.mk (Kd.R_mono (ok':=(fun k_=>(w.heap.size≤k_))) ac.out (fun k_ hk=>hk.1));clear ac;have ac:=n_;clear n_;obtain⟨hy16_,hz16_⟩:=Kd.R_celln 0 ac.out ((ji8):Int) (of_decide_eq_true ‹_›) (of_decide_eq_true ‹_›);have ar:=Kd.R_putg ac.out ((ji8):Int) ji7)|((with_reducible refine gate_store (t:=48) (p:=15) rfl ?_);refine store_event (t:=48) (p:=15) (v:=?vo_w17) (w1:=(w14.setCell ⟨am,((ji8):Int).toNat,none⟩ (.int .u64 ji7))) ?hg ?ho ?hn ?hr ?_;(case ho=>rfl);(case hg=>rfl);(case hn=>rfl);(case hr=>first|(go_simp;done)|(go_simp;rfl));intro w17 hw;have hg:w14.grownBy w17 (some am):=(by rw[hw];exact ar.2);have hp_:Kd.R (Kd.int .u64) 48 w17 w.heap.size (fun k_=>(w.heap.size≤k_)) (.slice (some ⟨am,0,none⟩) ab.length aq) ai:=(by rw[hw,aD.out];exact ar.1);clear ar;replace ad:=Aside0.mk (blk_grown (g:=ae) (o:=.cells #[.bool false,.slice none 0 0] 81 (0,0)) (kbu ad.out) hg (Kd.R_ne ac.out ad.out X0));replace ac:=Aside0.mk (hp_);replace HB:=Aside0.mk ((by rw[hw];exact below_set (HB.out) aG.out:Below w.heap.size w w17));clear hg hw hp_)|((with_reducible refine gate_callee (f:=49) rfl ?_);refine goesL_ (some 18) rfl rfl Tryz.func49 Y0 rfl #[.agg #[.bool false,.slice (some ⟨am,0,none⟩) ai.length aq]] rfl (by(try simp only[List.map_toArray,List.map_cons,List.map_nil]);first|done|(rw[show ai.length=ab.length from(Kd.R_reads' ac.out).1.symm]<;>rfl)|rfl|(simp only[List.length_drop,List.length_take];rfl)) ?_;(with_reducible refine(tribunalref02_From.calls k false _ _ ai ak ap _ ?side1 ?side2 A12.out).mono ?_);(case side1=>repeat (first|exact(Kd.R_reads' ac.out).2.2|(with_reducible refine Kd.C_alloc ?_ _)|(with_reducible refine Kd.C_drewN ?_ _)|(with_reducible refine Kd.C_drew ?_)));(case side2=>rw[show ai.length=ab.length from(Kd.R_reads' ac.out).1.symm];exact(Kd.R_reads' ac.out).2.1);rintro e w18 ⟨bg,rfl,ho0,hb⟩;refine⟨_,rfl,?_⟩;have av:=Aside0.mk (Kd.V_lower (Kd.V_mono (ok':=fun k_=>(w.heap.size≤k_)∧some k_≠(.slice (some ⟨am,0,none⟩) ab.length aq:Value).ownBlock∧k_≠ae) ho0 (fun k_ hk_=>⟨(Nat.le_trans (below_size (khu HB.out)) hk_),(Kd.fresh' (Kd.R_lt (kru ac.out)) k_ hk_),(kfb ad hk_)⟩)) (below_size (khu HB.out)));replace ac:=krb ac hb;replace ad:=kbb ad hb;replace HB:=kbs HB hb;(try clear hb);(try clear hb2);(try clear hk);(try clear hi);(try clear ho0);have aI:w18.cell? ⟨ae,0,none⟩=some (.bool false):=(blk_cell ad.out 0).trans rfl;have aJ:w18.cell? ⟨ae,1,none⟩=some (.slice none 0 0):=(blk_cell ad.out 1).trans rfl;have aK:=blk_frozen ad.out 0;have aL:=blk_frozen ad.out 1;obtain⟨aA,aB,aH⟩:=Kd.V_slice av.out;subst aH))
      refine bodyPost_ret (results_cell_row rfl _ _ ae 81 #[.bool ak,.slice aA ap.length aB] (0,0) _ rfl (kpu #[.bool ak,.slice none 0 0] 1 (kpu #[.bool false,.slice none 0 0] 0 (kbu ad.out))) Tryz.underlying81 rfl Y0) rfl ?_
      exact⟨_,by first|rfl|(simp[errW_none,errW_some]<;>rfl)|(simp only[←an,←hji5,←aj,←af];first|rfl|(simp[errW_none,errW_some]<;>rfl))|(simp[*,errW_none,errW_some]<;>rfl),by(with_reducible repeat (first|apply Kd.V_alloc|apply Kd.V_drewN|apply Kd.V_drew));exact Kd.V_mono (Kd.V_far (p:=⟨ae,1,none⟩) (Kd.V_far (p:=⟨ae,0,none⟩) (Kd.V_mono av.out (fun k_ hk=>(⟨hk,hk.2.2⟩:_∧k_≠ae))) (fun _ hk=>hk.2) (.bool ak)) (fun _ hk=>hk.2) (.slice aA ap.length aB)) (fun _ hk=>hk.1.1),by repeat (first|(with_reducible first|exact HB.out|apply below_alloc|apply pw_below_drewN|apply below_drew1|refine below_set ?_ aE.out)|exact HB.out)⟩
     rw[if_neg c10]at H
     exact absurd H Z1
    rw[if_neg c9]at H
    exact absurd H Z1
   rw[if_neg c6]at H
   exact absurd H Z1
  rw[if_neg c4]at H
  exact absurd H Z1
 rw[if_neg c3]at H
 exact absurd H Z1
mutual
def tribunalref02_To.l0:Nat→List Int→Int→Bool→List Int→Option (Bool×List Int)
 | 0,_,_,_,_=>none
 | k+1,x3,x4,x1087000,x1087001=>if x4<(x1087001.length:Int) then(tribunalref02_To.l1 k x3 x4 0 3 x1087000 x1087001) else(some (x1087000,x3))
def tribunalref02_To.l1:Nat→List Int→Int→Int→Int→Bool→List Int→Option (Bool×List Int)
 | 0,_,_,_,_,_,_=>none
 | k+1,x3,x4,x5,x6,x1087000,x1087001=>if x6≥0 then(if(wrap64 (x4+x6))<(x1087001.length:Int) then(if 0≤(wrap64 (x4+x6)) then(tribunalref02_To.l1 k x3 x4 (Go.bits .or .u64 (IntKind.u64.wrap (x5*65536)) (IntKind.u64.wrap (rd x1087001 (wrap64 (x4+x6))))) (wrap64 (x6-1)) x1087000 x1087001) else(none)) else(tribunalref02_To.l1 k x3 x4 (IntKind.u64.wrap (x5*65536)) (wrap64 (x6-1)) x1087000 x1087001)) else(if x3.length<17592186044416 then(tribunalref02_To.l0 k (x3++[x5]) (wrap64 (x4+4)) x1087000 x1087001) else(none))
end
def tribunalref02_To.f (k:Nat) (a0_0:Bool) (l0_1:List Int):Option (Bool×List Int):=tribunalref02_To.l0 k ([]:List Int) 0 a0_0 l0_1
theorem tribunalref02_To.calls (k:Nat) (ad:Bool) (al:Option Addr) (am:Nat) (ab:List Int) (r1:Bool) (r2:List Int) (w:World) (ax:Kd.C (Kd.int .u16) w al ab.length ab) (ay:ab.length≤am) (h:tribunalref02_To.f k ad ab=some (r1,r2)) :
  Calls Tryz.prog 50 #[.agg #[.bool ad,.slice al ab.length am]] w fun e w'=>∃v1_:Value,e=.returned (.agg #[.bool r1,v1_])∧Kd.R (Kd.int .u64) 48 w' w.heap.size (fun _=>True) v1_ r2∧Below w.heap.size w w':=by
 have bD:=Tryz.underlying81
 have bE:=Tryz.underlying43
 have aN:=Aside0.mk ax
 have bq:=Aside0.mk ay
 clear ax ay
 have HB:=Aside0.mk (Below.refl w.heap.size w)
 have H:(tribunalref02_To.l0 k ([]:List Int) 0 ad ab)=some (r1,r2):=h
 clear h
 have H':=Aside0.mk H
 clear H
 go_enter Tryz.func50,Tryz.ntmps50
 go_wp2_with (first|((with_reducible refine gate_dst (N:=1) rfl ?_);refine kbe 1 #[.bool ad,.slice al ab.length am] 81 ?_;intro ae hg w2 hbox hb;have aa:=Aside0.mk (hbox);have bn:=kbz hg HB;have an:=kbz hg HB;replace HB:=kbs HB hb;clear hb hbox hg)|((with_reducible refine gate_dst (N:=2) rfl ?_);refine kbe 2 #[.bool false,.slice none 0 0] 43 ?_;intro aj hg w3 hbox hb;have ac:=Aside0.mk (hbox);have bo:=kbz hg HB;have ao:=kbz hg HB;replace HB:=kbs HB hb;have ah:=knl hg aa;have ai:=kng hg aa;replace aa:=kbb aa hb;clear hb hbox hg))
 go_loopg [3,4] k (fun kq v3 v4 w'=>∃(ak:List Int) (af:Int),v4=.int .i64 af∧Aside0 (tribunalref02_To.l0 kq ak af ad ab=some (r1,r2))∧Aside0 (kq≤k)∧Aside0 (Kd.R (Kd.int .u64) 48 w' w.heap.size (fun _=>True) v3 ak)∧Aside0 (w'.heap[ae]? = some (.cells #[.bool ad,(.slice al ab.length am)] 81 (0,0)))∧Aside0 (w'.heap[aj]? = some (.cells #[.bool false,(.slice none 0 0)] 43 (0,0)))∧Aside0 (Below w.heap.size w w'))
 case atStart=>exact⟨(([]:List Int)),(0),J0,H',⟨Nat.le_refl _⟩,⟨F1⟩,⟨by(with_reducible repeat (first|refine blk_drewN ?_ _|refine blk_drew ?_|refine blk_alloc ?_ _));exact aa.out⟩,⟨by(with_reducible repeat (first|refine blk_drewN ?_ _|refine blk_drew ?_|refine blk_alloc ?_ _));exact ac.out⟩,⟨by repeat (first|(with_reducible first|exact HB.out|apply below_alloc|apply pw_below_drewN|apply below_drew1|refine below_set ?_ an.out|refine below_set ?_ ao.out)|exact HB.out)⟩⟩
 case round=>
  clear H'
  try clear p2
  obtain⟨ak,af,rfl,HA,HK1,HO_3,aa,ac,HB⟩:=hrel
  cases gk with
  | zero=>exact absurd HA.out (by simp[tribunalref02_To.l0])
  | succ k1=>
   have H:=HA.out
   clear HA
   simp only[tribunalref02_To.l0]at H
   by_cases c4:af<(ab.length:Int)
   ·rw [if_pos c4]at H
    have aA:decide (af<(ab.length:Int))=true:=decide_eq_true c4
    clear c4
    have H':=Aside0.mk H
    clear H
    have bF:=ah.out
    have bG:=ai.out
    have aC:wr.cell? ⟨ae,0,none⟩=some (.bool ad):=(blk_cell aa.out 0).trans rfl
    have aD:wr.cell? ⟨ae,1,none⟩=some (.slice al ab.length am):=(blk_cell aa.out 1).trans rfl
    have aE:=blk_frozen aa.out 0
    have aG:=blk_frozen aa.out 1
    go_wp2
    go_loopg [5,6] k1 (fun kq v5 v6 w'=>∃(ap:Int) (ag:Int),v5=.int .u64 ap∧v6=.int .i64 ag∧Aside0 (tribunalref02_To.l1 kq ak af ap ag ad ab=some (r1,r2))∧Aside0 (kq≤k1)∧Aside0 (Kd.R (Kd.int .u64) 48 w' w.heap.size (fun _=>True) u3 ak)∧Aside0 (w'.heap[ae]? = some (.cells #[.bool ad,(.slice al ab.length am)] 81 (0,0)))∧Aside0 (w'.heap[aj]? = some (.cells #[.bool false,(.slice none 0 0)] 43 (0,0)))∧Aside0 (Below w.heap.size w w'))
    case atStart=>exact⟨(0),(3),J0,J0,H',⟨Nat.le_refl _⟩,⟨D3⟩,⟨by(with_reducible repeat (first|refine blk_drewN ?_ _|refine blk_drew ?_|refine blk_alloc ?_ _));exact aa.out⟩,⟨by(with_reducible repeat (first|refine blk_drewN ?_ _|refine blk_drew ?_|refine blk_alloc ?_ _));exact ac.out⟩,⟨by repeat (first|(with_reducible first|exact HB.out|apply below_alloc|apply pw_below_drewN|apply below_drew1|refine below_set ?_ an.out|refine below_set ?_ ao.out)|exact HB.out)⟩⟩
    case round=>
     clear H'
     try clear p2
     try clear c4
     try clear aA
     try clear c5
     try clear aC
     try clear aD
     try clear aE
     try clear aG
     try clear p2
     obtain⟨ap,ag,rfl,rfl,HA,HK2,HO_3,aa,ac,HB⟩:=hrel
     cases gk with
     | zero=>exact absurd HA.out (by simp[tribunalref02_To.l1])
     | succ k2=>
      have H:=HA.out
      clear HA
      simp only[tribunalref02_To.l1]at H
      by_cases c7:ag≥0
      ·rw[if_pos c7]at H
       have aT:decide (0≤ag)=true:=decide_eq_true c7
       clear c7
       by_cases c8:(wrap64 (af+ag))<(ab.length:Int)
       ·rw[if_pos c8]at H
        have aH:decide ((wrap64 (af+ag))<(ab.length:Int))=true:=decide_eq_true c8
        clear c8
        obtain⟨ji9,au⟩:∃j_:Int,(wrap64 (af+ag))=j_:=⟨_,rfl⟩
        replace H:(if 0≤(ji9) then(tribunalref02_To.l1 k2 ak af (Go.bits .or .u64 (IntKind.u64.wrap (ap*65536)) (IntKind.u64.wrap (rd ab (ji9)))) (wrap64 (ag-1)) ad ab) else(none))=some (r1,r2):=by first|(rw[au]at H;exact H)|(simp only[au]at H ⊢;exact H)
        (try rw[au]at aH)
        have br:(IntKind.i64.wrap (af+ag))=ji9:=(i64_w _).trans au
        by_cases c10:0≤(ji9)
        ·rw[if_pos c10]at H
         have bu:decide (0≤(ji9))=true:=decide_eq_true c10
         clear c10
         have H':=Aside0.mk H
         clear H
         have bv:=ah.out
         have bw:=ai.out
         have aV:wr.cell? ⟨ae,0,none⟩=some (.bool ad):=(blk_cell aa.out 0).trans rfl
         have aW:wr.cell? ⟨ae,1,none⟩=some (.slice al ab.length am):=(blk_cell aa.out 1).trans rfl
         have aX:=blk_frozen aa.out 0
         have aY:=blk_frozen aa.out 1
         have av:0≤((ji9):Int):=of_decide_eq_true ‹_›
         have aw:(ji9)<(ab.length:Int):=of_decide_eq_true ‹_›
         obtain⟨bp,aQ,ar⟩:=Kd.at_int aN.out (ji9) av aw
         cases aQ
         replace ar:=(HB.out.cell (World.block_lt_of_cell? w _ ar)).trans ar
         replace av:=eq_true av
         replace aw:=eq_true aw
         go_wp2
         go_roundg k2
         case measure=>have:=HK1.out;have:=HK2.out;omega
         case rel=>exact⟨(Go.bits .or .u64 (IntKind.u64.wrap (ap*65536)) (IntKind.u64.wrap (rd ab (ji9)))),(wrap64 (ag-1)),(by first|rfl|(simp;done)|(simp only[←au]<;>(first|rfl|simp))|(simp[*];done)),J0,H',⟨Y7⟩,⟨D3⟩,⟨by(with_reducible repeat (first|refine blk_drewN ?_ _|refine blk_drew ?_|refine blk_alloc ?_ _));exact aa.out⟩,⟨by(with_reducible repeat (first|refine blk_drewN ?_ _|refine blk_drew ?_|refine blk_alloc ?_ _));exact ac.out⟩,⟨by repeat (first|(with_reducible first|exact HB.out|apply below_alloc|apply pw_below_drewN|apply below_drew1|refine below_set ?_ an.out|refine below_set ?_ ao.out)|exact HB.out)⟩⟩
        rw[if_neg c10]at H
        exact absurd H Z1
       rw[if_neg c8]at H
       have aH:decide ((wrap64 (af+ag))<(ab.length:Int))=false:=decide_eq_false c8
       clear c8
       have H':=Aside0.mk H
       clear H
       have bx:=ah.out
       have bz:=ai.out
       have aZ:wr.cell? ⟨ae,0,none⟩=some (.bool ad):=(blk_cell aa.out 0).trans rfl
       have bb:wr.cell? ⟨ae,1,none⟩=some (.slice al ab.length am):=(blk_cell aa.out 1).trans rfl
       have bc:=blk_frozen aa.out 0
       have bd:=blk_frozen aa.out 1
       go_wp2
       go_roundg k2
       case measure=>have:=HK1.out;have:=HK2.out;omega
       case rel=>exact⟨(IntKind.u64.wrap (ap*65536)),(wrap64 (ag-1)),J0,J0,H',⟨Y7⟩,⟨D3⟩,⟨by(with_reducible repeat (first|refine blk_drewN ?_ _|refine blk_drew ?_|refine blk_alloc ?_ _));exact aa.out⟩,⟨by(with_reducible repeat (first|refine blk_drewN ?_ _|refine blk_drew ?_|refine blk_alloc ?_ _));exact ac.out⟩,⟨by repeat (first|(with_reducible first|exact HB.out|apply below_alloc|apply pw_below_drewN|apply below_drew1|refine below_set ?_ an.out|refine below_set ?_ ao.out)|exact HB.out)⟩⟩
      rw[if_neg c7]at H
      have aT:decide (0≤ag)=false:=decide_eq_false c7
      clear c7
      by_cases c15:ak.length<17592186044416
      ·rw[if_pos c15]at H
       have aR:=Aside0.mk c15
       clear c15
       obtain⟨az,aq⟩:∃y_:List Int,y_=(ak++[ap]):=⟨_,rfl⟩
       replace H:(tribunalref02_To.l0 k2 az (wrap64 (af+4)) ad ab)=some (r1,r2):=by first|(rw[aq];with_reducible exact H)|(have H2_:=(Option.bind_some _ _).symm.trans H;rw[aq];with_reducible exact H2_)|(have H2_:=(Option.bind_some _ _).symm.trans H;with_reducible exact H2_)|with_reducible exact H|(rw[aq];exact H)|exact H
       have aI:=Aside0.mk aq
       clear aq
       have H':=Aside0.mk H
       clear H
       go_wp2_with (first|((with_reducible refine gate_builtin (b:=.append) (xs:=#[.tmp 37,.tmp 39]) rfl ?_);at_builtin;refine Kd.R_append (Kd.int .u64) (w0:=w) w.heap.size rfl (.tmp 37) (.tmp 39) 26 48 (.int .u64 0) 8 rfl Tryz.underlying26 info48 rfl X0 Z0 u3 ak ap [.int .u64 ap] (fun _=>True) (fun _=>False) rfl rfl ?aP (fun _ hk=>hk.elim) ?aF ?aO ?aB ?aS ?aL ?_;(case aP=>exact rfl);(case aB=>exact(khu HB.out));(case aF=>exact(fun _ _=>trivial));(case aO=>exact(kru HO_3.out));(case aS=>exact(below_size (khu HB.out)));(case aL=>have:=aR.out;omega);intro bA w16 ho hb hg hat;rw[←aI.out]at ho;replace aa:=Aside0.mk (blk_grown (g:=ae) (o:=.cells #[.bool ad,.slice al ab.length am] 81 (0,0)) (kbu aa.out) hg (Kd.R_ne HO_3.out aa.out X0));replace ac:=Aside0.mk (blk_grown (g:=aj) (o:=.cells #[.bool false,.slice none 0 0] 43 (0,0)) (kbu ac.out) hg (Kd.R_ne HO_3.out ac.out X0));replace HB:=Aside0.mk (hb);have aJ:=Aside0.mk (ho);clear HO_3;clear ho hb hg hat))
       go_roundg k2
       case measure=>have:=HK1.out;have:=HK2.out;omega
       case rel=>exact⟨(az),(wrap64 (af+4)),J0,H',⟨Y7⟩,⟨by(with_reducible repeat (first|apply Kd.R_alloc|apply Kd.R_drewN|apply Kd.R_drew));exact aJ.out⟩,⟨by(with_reducible repeat (first|refine blk_drewN ?_ _|refine blk_drew ?_|refine blk_alloc ?_ _));exact aa.out⟩,⟨by(with_reducible repeat (first|refine blk_drewN ?_ _|refine blk_drew ?_|refine blk_alloc ?_ _));exact ac.out⟩,⟨by repeat (first|(with_reducible first|exact HB.out|apply below_alloc|apply pw_below_drewN|apply below_drew1|refine below_set ?_ an.out|refine below_set ?_ ao.out)|exact HB.out)⟩⟩
      rw[if_neg c15]at H
      exact absurd H Z1
   rw[if_neg c4]at H
   have aA:decide (af<(ab.length:Int))=false:=decide_eq_false c4
   clear c4
   simp only[Option.some.injEq,Prod.mk.injEq]at H
   obtain⟨rfl,rfl⟩:=H
   have bB:=ah.out
   have bC:=ai.out
   have be:wr.cell? ⟨ae,0,none⟩=some (.bool ad):=(blk_cell aa.out 0).trans rfl
   have bf:wr.cell? ⟨ae,1,none⟩=some (.slice al ab.length am):=(blk_cell aa.out 1).trans rfl
   have bg:=blk_frozen aa.out 0
   have bh:=blk_frozen aa.out 1
   obtain⟨aK,aM,aU⟩:=Kd.R_slice HO_3.out
   subst aU
   have bi:wr.cell? ⟨aj,0,none⟩=some (.bool false):=(blk_cell ac.out 0).trans rfl
   have bj:wr.cell? ⟨aj,1,none⟩=some (.slice none 0 0):=(blk_cell ac.out 1).trans rfl
   have bk:=blk_frozen ac.out 0
   have bl:=blk_frozen ac.out 1
   go_wp2
   refine bodyPost_ret (results_cell_row rfl _ _ aj 43 #[.bool ad,.slice aK ak.length aM] (0,0) _ rfl (kpu #[.bool ad,.slice none 0 0] 1 (kpu #[.bool false,.slice none 0 0] 0 (kbu ac.out))) Tryz.underlying43 rfl Y0) rfl ?_
   exact⟨_,Y2,by(with_reducible repeat (first|apply Kd.R_alloc|apply Kd.R_drewN|apply Kd.R_drew));exact Kd.R_mono (Kd.R_far (p:=⟨aj,1,none⟩) (Kd.R_far (p:=⟨aj,0,none⟩) (Kd.R_types HO_3.out ac.out X0) (fun _ hk=>hk.2) (.bool ad)) (fun _ hk=>hk.2) (.slice aK ak.length aM)) (fun _ hk=>trivial),by repeat (first|(with_reducible first|exact HB.out|apply below_alloc|apply pw_below_drewN|apply below_drew1|refine below_set ?_ an.out|refine below_set ?_ ao.out)|exact HB.out)⟩
def tribunalref02_Minus.f (k:Nat) (a0_0:Bool) (l0_1:List Int):Option (Bool×List Int):=(tribunalref02_Make.f k (!a0_0) l0_1).bind fun bt971=>(some (bt971.1,bt971.2))
theorem tribunalref02_Minus.calls (k:Nat) (ab:Bool) (P0_1_:Nat→Prop) (ac:Option Addr) (ad:Nat) (aa:List Int) (r1:Bool) (r2:List Int) (w:World) (ae:Kd.V (Kd.int .u16) 127 w w.heap.size (fun k_=>P0_1_ k_) (.slice ac aa.length ad) aa) (h:tribunalref02_Minus.f k ab aa=some (r1,r2)) :
  Calls Tryz.prog 80 #[.agg #[.bool ab,.slice ac aa.length ad]] w fun e w'=>∃v1_:Value,e=.returned (.agg #[.bool r1,v1_])∧Kd.V (Kd.int .u16) 127 w' w.heap.size (fun k_=>(P0_1_ k_∨w.heap.size≤k_)) v1_ r2∧Below w.heap.size w w':=by
 have af:=Tryz.underlying81
 have K:=Kp.refl w
 replace K:=K.parV (Kd.V_mono (ok':=fun k=>P0_1_ k) ae (fun _ h=>h))
 clear ae
 try simp only[klv]at K
 rw[tribunalref02_Minus.f]at h
 replace h:=bindA h
 obtain⟨⟨z5,x6⟩,A7,h⟩:=h
 dsimp only at h
 simp only[Option.some.injEq,Prod.mk.injEq]at h
 obtain⟨rfl,rfl⟩:=h
 go_enter Tryz.func80,Tryz.ntmps80
 go_wp2_with (first|(refine gd 1 rfl ?_;refine kbk 1 #[.bool ab,.slice ac aa.length ad] 81 K.u ?_;clear K;intro g1 W2 K)|(refine gd 2 rfl ?_;refine kbk 2 #[.bool false,.slice none 0 0] 81 K.u ?_;clear K;intro g3 W4 K;obtain⟨ua0,ub0⟩:=K.cell2 0 rfl)|(refine gd 8 rfl ?_;clear ua0 ub0;refine kgl (some 8) rfl rfl Tryz.func92 #[.bool !ab,.slice ac aa.length ad] rfl ?_;refine(tribunalref02_Make.calls _ (!ab) _ _ _ aa z5 x6 _ (K.V 0 rfl) A7.out).mono ?_;rintro e W10 ⟨v8,rfl,ho9,hb⟩;refine⟨_,rfl,?_⟩;replace K:=K.u.add (fun k=>P0_1_ k) hb ho9 (fun _ h=>h);clear hb ho9;obtain⟨P11,c12,e13⟩:=K.slice 1 rfl;subst e13)|(refine gs 81 2 8 rfl ?_;refine ks2 1 (.bool z5) (.slice P11 x6.length c12) K.u rfl ?_;clear K;intro W14 K;simp only[kls,klv]at K))
 refine bodyPost_ret (results_single rfl (.cell g3 81 #[.bool z5,.slice P11 x6.length c12] (0,0) _ rfl (K.u.heap 1 rfl) Tryz.underlying81 rfl Y0 .nil)) rfl ?_
 exact⟨_,rfl,K.u.hand 1 rfl (fun k_ h=>h.elim (fun h=>.inl h) .inr),K.u.below⟩
def tribunalref02_cmpD.l0:Nat→List Int→List Int→Int→Option (Int)
 | 0,_,_,_=>none
 | k+1,x0,x1,x5=>if x5≥0 then(if 0≤x5 then(if x5<(x0.length:Int) then(if x5<(x1.length:Int) then(if(rd x0 x5)<(rd x1 x5) then(some (-1)) else(if(rd x0 x5)>(rd x1 x5) then(some 1) else(tribunalref02_cmpD.l0 k x0 x1 (wrap64 (x5-1))))) else(none)) else(none)) else(none)) else(some 0)
def tribunalref02_cmpD.f (k:Nat) (l0:List Int) (l1:List Int):Option (Int):=if(l0.length:Int)=(l1.length:Int) then(tribunalref02_cmpD.l0 k l0 l1 (wrap64 ((l0.length:Int)-1))) else(if(l0.length:Int)<(l1.length:Int) then(some (-1)) else(some 1))
theorem tribunalref02_cmpD.calls (k:Nat) (A0:Option Addr) (c0:Nat) (l0:List Int) (A1:Option Addr) (c1:Nat) (l1:List Int) (r:Int) (w:World) (hr0:Kd.C (Kd.int .u16) w A0 l0.length l0) (hc0:l0.length≤c0) (hr1:Kd.C (Kd.int .u16) w A1 l1.length l1) (hc1:l1.length≤c1) (h:tribunalref02_cmpD.f k l0 l1=some r) :
  Calls Tryz.prog 90 #[.slice A0 l0.length c0,.slice A1 l1.length c1] w fun e w'=>e=.returned (.int .i64 r)∧Drawn0 w w':=by
 have HR0:=Aside0.mk hr0
 have HC0:=Aside0.mk hc0
 clear hr0 hc0
 have HR1:=Aside0.mk hr1
 have HC1:=Aside0.mk hc1
 clear hr1 hc1
 have H:(if(l0.length:Int)=(l1.length:Int) then(tribunalref02_cmpD.l0 k l0 l1 (wrap64 ((l0.length:Int)-1))) else(if(l0.length:Int)<(l1.length:Int) then(some (-1)) else(some 1)))=some r:=h
 clear h
 by_cases c3:(l0.length:Int)=(l1.length:Int)
 ·rw [if_pos c3]at H
  have ax:((l0.length:Int)==(l1.length:Int))=true:=beq_iff_eq.mpr c3
  have ay:((l0.length:Int) != (l1.length:Int))=false:=bne_eq_false_iff_eq.mpr c3
  have az:(l0.length==l1.length)=true:=by first|simpa using c3|(simp at c3 ⊢;omega)
  clear c3
  have H':=Aside0.mk H
  clear H
  go_enter Tryz.func90,Tryz.ntmps90
  go_wp2
  repeat (go_quiet (fail);try go_wp2)
  go_loopg [5] k (fun kq v5 w'=>∃(aa:Int),v5=.int .i64 aa∧Aside0 (tribunalref02_cmpD.l0 kq l0 l1 aa=some r)∧Aside0 (kq≤k)∧Drawn0 w w')
  case atStart=>exact⟨(wrap64 ((l0.length:Int)-1)),J0,H',⟨Nat.le_refl _⟩,Y1⟩
  case round=>
   clear H'
   try clear c1
   try clear p2
   try clear c3
   try clear ax
   try clear ay
   try clear az
   obtain⟨aa,rfl,HA,HK1,⟨m1,rfl⟩⟩:=hrel
   cases gk with
   | zero=>exact absurd HA.out (by simp[tribunalref02_cmpD.l0])
   | succ k1=>
    have H:=HA.out
    clear HA
    simp only[tribunalref02_cmpD.l0]at H
    by_cases c4:aa≥0
    ·rw [if_pos c4]at H
     have aC:decide (0≤aa)=true:=decide_eq_true c4
     clear c4
     by_cases c5:0≤aa
     ·rw [if_pos c5]at H
      have aF:decide (0≤aa)=true:=decide_eq_true c5
      clear c5
      by_cases c6:aa<(l0.length:Int)
      ·rw[if_pos c6]at H
       have aG:decide (aa<(l0.length:Int))=true:=decide_eq_true c6
       clear c6
       by_cases c7:aa<(l1.length:Int)
       ·rw[if_pos c7]at H
        have aH:decide (aa<(l1.length:Int))=true:=decide_eq_true c7
        clear c7
        by_cases c8:(rd l0 aa)<(rd l1 aa)
        ·rw[if_pos c8]at H
         have aD:decide ((rd l0 aa)<(rd l1 aa))=true:=decide_eq_true c8
         clear c8
         obtain rfl:=Option.some.inj H
         have ab:0≤(aa:Int):=of_decide_eq_true ‹_›
         have ac:aa<(l0.length:Int):=of_decide_eq_true ‹_›
         obtain⟨aj,al,an⟩:=Kd.at_int HR0.out aa ab ac
         cases al
         replace ab:=eq_true ab
         replace ac:=eq_true ac
         have ad:0≤(aa:Int):=of_decide_eq_true ‹_›
         have ae:aa<(l1.length:Int):=of_decide_eq_true ‹_›
         obtain⟨ak,am,ao⟩:=Kd.at_int HR1.out aa ad ae
         cases am
         replace ad:=eq_true ad
         replace ae:=eq_true ae
         go_wp2
         repeat (go_quiet (fail);try go_wp2)
         go_ret
         exact⟨J0,Y1⟩
        rw[if_neg c8]at H
        have aD:decide ((rd l0 aa)<(rd l1 aa))=false:=decide_eq_false c8
        clear c8
        by_cases c9:(rd l0 aa)>(rd l1 aa)
        ·rw[if_pos c9]at H
         have aE:decide ((rd l1 aa)<(rd l0 aa))=true:=decide_eq_true c9
         clear c9
         obtain rfl:=Option.some.inj H
         have ab:0≤(aa:Int):=of_decide_eq_true ‹_›
         have ac:aa<(l0.length:Int):=of_decide_eq_true ‹_›
         obtain⟨aj,al,an⟩:=Kd.at_int HR0.out aa ab ac
         cases al
         replace ab:=eq_true ab
         replace ac:=eq_true ac
         have ad:0≤(aa:Int):=of_decide_eq_true ‹_›
         have ae:aa<(l1.length:Int):=of_decide_eq_true ‹_›
         obtain⟨ak,am,ao⟩:=Kd.at_int HR1.out aa ad ae
         cases am
         replace ad:=eq_true ad
         replace ae:=eq_true ae
         have af:0≤(aa:Int):=of_decide_eq_true ‹_›
         have ag:aa<(l0.length:Int):=of_decide_eq_true ‹_›
         obtain⟨ap,ar,av⟩:=Kd.at_int HR0.out aa af ag
         obtain rfl:aj=ap:=(by injection ar)
         replace af:=eq_true af
         replace ag:=eq_true ag
         have ah:0≤(aa:Int):=of_decide_eq_true ‹_›
         have ai:aa<(l1.length:Int):=of_decide_eq_true ‹_›
         obtain⟨aq,au,aw⟩:=Kd.at_int HR1.out aa ah ai
         obtain rfl:ak=aq:=(by injection au)
         replace ah:=eq_true ah
         replace ai:=eq_true ai
         go_wp2
         repeat (go_quiet (fail);try go_wp2)
         go_ret
         exact⟨J0,Y1⟩
        rw[if_neg c9]at H
        have aE:decide ((rd l1 aa)<(rd l0 aa))=false:=decide_eq_false c9
        clear c9
        have H':=Aside0.mk H
        clear H
        have ab:0≤(aa:Int):=of_decide_eq_true ‹_›
        have ac:aa<(l0.length:Int):=of_decide_eq_true ‹_›
        obtain⟨aj,al,an⟩:=Kd.at_int HR0.out aa ab ac
        cases al
        replace ab:=eq_true ab
        replace ac:=eq_true ac
        have ad:0≤(aa:Int):=of_decide_eq_true ‹_›
        have ae:aa<(l1.length:Int):=of_decide_eq_true ‹_›
        obtain⟨ak,am,ao⟩:=Kd.at_int HR1.out aa ad ae
        cases am
        replace ad:=eq_true ad
        replace ae:=eq_true ae
        have af:0≤(aa:Int):=of_decide_eq_true ‹_›
        have ag:aa<(l0.length:Int):=of_decide_eq_true ‹_›
        obtain⟨ap,ar,av⟩:=Kd.at_int HR0.out aa af ag
        obtain rfl:aj=ap:=(by injection ar)
        replace af:=eq_true af
        replace ag:=eq_true ag
        have ah:0≤(aa:Int):=of_decide_eq_true ‹_›
        have ai:aa<(l1.length:Int):=of_decide_eq_true ‹_›
        obtain⟨aq,au,aw⟩:=Kd.at_int HR1.out aa ah ai
        obtain rfl:ak=aq:=(by injection au)
        replace ah:=eq_true ah
        replace ai:=eq_true ai
        go_wp2
        repeat (go_quiet (fail);try go_wp2)
        go_roundg k1
        case measure=>have:=HK1.out;omega
        case rel=>exact⟨(wrap64 (aa-1)),J0,H',⟨X2⟩,Y1⟩
       rw[if_neg c7]at H
       exact absurd H Z1
      rw[if_neg c6]at H
      exact absurd H Z1
     rw[if_neg c5]at H
     exact absurd H Z1
    rw[if_neg c4]at H
    have aC:decide (0≤aa)=false:=decide_eq_false c4
    clear c4
    obtain rfl:=Option.some.inj H
    go_wp2
    repeat (go_quiet (fail);try go_wp2)
    go_ret
    exact⟨J0,Y1⟩
 rw[if_neg c3]at H
 have ax:((l0.length:Int)==(l1.length:Int))=false:=beq_eq_false_iff_ne.mpr c3
 have ay:((l0.length:Int) != (l1.length:Int))=true:=bne_iff_ne.mpr c3
 have az:(l0.length==l1.length)=false:=by first|simpa using c3|(simp at c3 ⊢;omega)
 by_cases c10:(l0.length:Int)<(l1.length:Int)
 ·rw[if_pos c10]at H
  have aA:decide ((l0.length:Int)<(l1.length:Int))=true:=decide_eq_true c10
  have aB:decide (l0.length<l1.length)=true:=decide_eq_true (Int.ofNat_lt.mp c10)
  clear c10
  obtain rfl:=Option.some.inj H
  go_enter Tryz.func90,Tryz.ntmps90
  go_wp2
  repeat (go_quiet (fail);try go_wp2)
  go_ret
  exact⟨J0,Y1⟩
 rw[if_neg c10]at H
 have aA:decide ((l0.length:Int)<(l1.length:Int))=false:=decide_eq_false c10
 have aB:decide (l0.length<l1.length)=false:=decide_eq_false (fun h=>c10 (Int.ofNat_lt.mpr h))
 clear c10
 obtain rfl:=Option.some.inj H
 go_enter Tryz.func90,Tryz.ntmps90
 go_wp2
 repeat (go_quiet (fail);try go_wp2)
 go_ret
 exact⟨J0,Y1⟩
mutual
def tribunalref02_addD.l0:Nat→List Int→List Int→List Int→Int→Int→Option (List Int)
 | 0,_,_,_,_,_=>none
 | k+1,x0,x1,x5,x6,x7=>if x7<(x0.length:Int) then(tribunalref02_addD.j1 k x0 x1 x5 x6 x7 true) else(if x7<(x1.length:Int) then(tribunalref02_addD.j1 k x0 x1 x5 x6 x7 true) else(tribunalref02_addD.j1 k x0 x1 x5 x6 x7 (decide (x6>0))))
def tribunalref02_addD.j1:Nat→List Int→List Int→List Int→Int→Int→Bool→Option (List Int)
 | 0,_,_,_,_,_,_=>none
 | k+1,x0,x1,x5,x6,x7,x21=>if x21=true then(if x7<(x0.length:Int) then(if 0≤x7 then(if x7<(x1.length:Int) then(if x5.length<70368744177664 then(tribunalref02_addD.l0 k x0 x1 (x5++[IntKind.u16.wrap (((x6+(rd x0 x7))+(rd x1 x7))%4294967296)]) ((((x6+(rd x0 x7))+(rd x1 x7))%4294967296)/65536) (wrap64 (x7+1))) else(none)) else(if x5.length<70368744177664 then(tribunalref02_addD.l0 k x0 x1 (x5++[IntKind.u16.wrap ((x6+(rd x0 x7))%4294967296)]) (((x6+(rd x0 x7))%4294967296)/65536) (wrap64 (x7+1))) else(none))) else(none)) else(if x7<(x1.length:Int) then(if 0≤x7 then(if x5.length<70368744177664 then(tribunalref02_addD.l0 k x0 x1 (x5++[IntKind.u16.wrap ((x6+(rd x1 x7))%4294967296)]) (((x6+(rd x1 x7))%4294967296)/65536) (wrap64 (x7+1))) else(none)) else(none)) else(if x5.length<70368744177664 then(tribunalref02_addD.l0 k x0 x1 (x5++[IntKind.u16.wrap (x6)]) (x6/65536) (wrap64 (x7+1))) else(none)))) else(some x5)
end
def tribunalref02_addD.f (k:Nat) (l0:List Int) (l1:List Int):Option (List Int):=tribunalref02_addD.l0 k l0 l1 ([]:List Int) 0 0
theorem tribunalref02_addD.calls (k:Nat) (A0:Option Addr) (c0:Nat) (l0:List Int) (A1:Option Addr) (c1:Nat) (l1:List Int) (r:List Int) (w:World) (hr0:Kd.C (Kd.int .u16) w A0 l0.length l0) (hc0:l0.length≤c0) (hr1:Kd.C (Kd.int .u16) w A1 l1.length l1) (hc1:l1.length≤c1) (h:tribunalref02_addD.f k l0 l1=some r) :
  Calls Tryz.prog 150 #[.slice A0 l0.length c0,.slice A1 l1.length c1] w fun e w'=>∃v0_:Value,e=.returned (v0_)∧Kd.R (Kd.int .u16) 127 w' w.heap.size (fun _=>True) v0_ r∧Below w.heap.size w w':=by
 have HR0:=Aside0.mk hr0
 have HC0:=Aside0.mk hc0
 clear hr0 hc0
 have HR1:=Aside0.mk hr1
 have HC1:=Aside0.mk hc1
 clear hr1 hc1
 have HB:=Aside0.mk (Below.refl w.heap.size w)
 have H:(tribunalref02_addD.l0 k l0 l1 ([]:List Int) 0 0)=some r:=h
 clear h
 have H':=Aside0.mk H
 clear H
 go_enter Tryz.func150,Tryz.ntmps150
 go_wp2
 go_loopg [5,6,7] k (fun kq v5 v6 v7 w'=>∃(ac:List Int) (ab:Int) (aa:Int),v6=.int .u32 ab∧v7=.int .i64 aa∧Aside0 (tribunalref02_addD.l0 kq l0 l1 ac ab aa=some r)∧Aside0 (kq≤k)∧Aside0 (Kd.R (Kd.int .u16) 127 w' w.heap.size (fun _=>True) v5 ac)∧Aside0 (Below w.heap.size w w'))
 case atStart=>exact⟨(([]:List Int)),(0),(0),J0,J0,H',⟨Nat.le_refl _⟩,⟨F1⟩,⟨khu HB.out⟩⟩
 case round=>
  clear H'
  try clear c1
  try clear p2
  obtain⟨ac,ab,aa,rfl,rfl,HA,HK1,ad,HB⟩:=hrel
  cases gk with
  | zero=>exact absurd HA.out (by simp[tribunalref02_addD.l0])
  | succ k1=>
   have H:=HA.out
   clear HA
   simp only[tribunalref02_addD.l0]at H
   have HC3:=Aside0.mk H
   clear H
   go_upto_region 4 with(fail)
   go_cut [21] (fun v21 wc=>∃(kq:Nat) (ao:Bool),v21=.bool ao∧Aside0 (tribunalref02_addD.j1 kq l0 l1 ac ab aa ao=some r)∧Aside0 (kq≤k1)∧Aside0 (Kd.R (Kd.int .u16) 127 wc w.heap.size (fun _=>True) u5 ac)∧Aside0 (Below w.heap.size w wc))
   case first=>
    have H:=HC3.out
    clear HC3
    by_cases c4:aa<(l0.length:Int)
    ·rw[if_pos c4]at H
     have al:decide (aa<(l0.length:Int))=true:=decide_eq_true c4
     clear c4
     (first|rw[al]|rw[aw]|(simp only[i64_w,i32_w];rw[al])|skip)
     have H':=Aside0.mk H
     clear H
     go_wp2
     go_meet
     case rel=>exact⟨_,(true),J0,H',⟨Z4⟩,⟨kru ad.out⟩,⟨khu HB.out⟩⟩
    rw[if_neg c4]at H
    have al:decide (aa<(l0.length:Int))=false:=decide_eq_false c4
    clear c4
    (first|rw[al]|rw[aw]|(simp only[i64_w,i32_w];rw[al])|skip)
    by_cases c5:aa<(l1.length:Int)
    ·rw[if_pos c5]at H
     have ax:decide (aa<(l1.length:Int))=true:=decide_eq_true c5
     clear c5
     have H':=Aside0.mk H
     clear H
     go_wp2
     go_meet
     case rel=>exact⟨_,(true),J0,H',⟨Z4⟩,⟨kru ad.out⟩,⟨khu HB.out⟩⟩
    rw[if_neg c5]at H
    have ax:decide (aa<(l1.length:Int))=false:=decide_eq_false c5
    clear c5
    have H':=Aside0.mk H
    clear H
    go_wp2
    go_meet
    case rel=>exact⟨_,(decide (ab>0)),J0,H',⟨Z4⟩,⟨kru ad.out⟩,⟨khu HB.out⟩⟩
   case rest=>
    clear HC3
    try clear c1
    try clear p2
    try clear c4
    try clear al
    try clear aw
    try clear c5
    try clear ax
    try clear p2
    obtain⟨kq,ao,rfl,HA,HJ2,ad,HB⟩:=hcut
    cases kq with
    | zero=>exact absurd HA.out (by simp[tribunalref02_addD.j1])
    | succ kj2=>
     have H:=HA.out
     clear HA
     simp only[tribunalref02_addD.j1]at H
     by_cases c6:ao=true
     ·subst c6
      have H1:(if aa<(l0.length:Int) then(if 0≤aa then(if aa<(l1.length:Int) then(if ac.length<70368744177664 then(tribunalref02_addD.l0 kj2 l0 l1 (ac++[IntKind.u16.wrap (((ab+(rd l0 aa))+(rd l1 aa))%4294967296)]) ((((ab+(rd l0 aa))+(rd l1 aa))%4294967296)/65536) (wrap64 (aa+1))) else(none)) else(if ac.length<70368744177664 then(tribunalref02_addD.l0 kj2 l0 l1 (ac++[IntKind.u16.wrap ((ab+(rd l0 aa))%4294967296)]) (((ab+(rd l0 aa))%4294967296)/65536) (wrap64 (aa+1))) else(none))) else(none)) else(if aa<(l1.length:Int) then(if 0≤aa then(if ac.length<70368744177664 then(tribunalref02_addD.l0 kj2 l0 l1 (ac++[IntKind.u16.wrap ((ab+(rd l1 aa))%4294967296)]) (((ab+(rd l1 aa))%4294967296)/65536) (wrap64 (aa+1))) else(none)) else(none)) else(if ac.length<70368744177664 then(tribunalref02_addD.l0 kj2 l0 l1 (ac++[IntKind.u16.wrap (ab)]) (ab/65536) (wrap64 (aa+1))) else(none))))=some r:=by rw[if_pos rfl]at H;exact H
      clear H
      have H:=H1
      clear H1
      by_cases c7:aa<(l0.length:Int)
      ·rw [if_pos c7]at H
       have aW:decide (aa<(l0.length:Int))=true:=decide_eq_true c7
       clear c7
       by_cases c8:0≤aa
       ·rw[if_pos c8]at H
        have be:decide (0≤aa)=true:=decide_eq_true c8
        clear c8
        by_cases c9:aa<(l1.length:Int)
        ·rw[if_pos c9]at H
         have aX:decide (aa<(l1.length:Int))=true:=decide_eq_true c9
         clear c9
         by_cases c10:ac.length<70368744177664
         ·rw[if_pos c10]at H
          have aD:=Aside0.mk c10
          clear c10
          obtain⟨ay,ah⟩:∃y_:List Int,y_=(ac++[IntKind.u16.wrap (((ab+(rd l0 aa))+(rd l1 aa))%4294967296)]):=⟨_,rfl⟩
          replace H:(tribunalref02_addD.l0 kj2 l0 l1 ay ((((ab+(rd l0 aa))+(rd l1 aa))%4294967296)/65536) (wrap64 (aa+1)))=some r:=by first|(rw[ah];with_reducible exact H)|(have H2_:=(Option.bind_some _ _).symm.trans H;rw[ah];with_reducible exact H2_)|(have H2_:=(Option.bind_some _ _).symm.trans H;with_reducible exact H2_)|with_reducible exact H|(rw[ah];exact H)|exact H
          have aE:=Aside0.mk ah
          clear ah
          have H':=Aside0.mk H
          clear H
          have af:0≤(aa:Int):=of_decide_eq_true ‹_›
          have ag:aa<(l0.length:Int):=of_decide_eq_true ‹_›
          obtain⟨aG,ap,ae⟩:=Kd.at_int HR0.out aa af ag
          cases ap
          replace ae:=(HB.out.cell (World.block_lt_of_cell? w _ ae)).trans ae
          replace af:=eq_true af
          replace ag:=eq_true ag
          have aq:0≤(aa:Int):=of_decide_eq_true ‹_›
          have ar:aa<(l1.length:Int):=of_decide_eq_true ‹_›
          obtain⟨bb,aY,am⟩:=Kd.at_int HR1.out aa aq ar
          cases aY
          replace am:=(HB.out.cell (World.block_lt_of_cell? w _ am)).trans am
          replace aq:=eq_true aq
          replace ar:=eq_true ar
          go_wp2_with (first|((with_reducible refine gate_builtin (b:=.append) (xs:=#[.tmp 46,.tmp 49]) rfl ?_);(try(refine gate_guard F0 ?_;dsimp only));at_builtin;refine Kd.R_append (Kd.int .u16) (w0:=w) w.heap.size rfl (.tmp 46) (.tmp 49) 79 127 (.int .u16 0) 2 rfl Tryz.underlying79 info127 rfl X0 Z0 u5 ac (IntKind.u16.wrap (((ab+(rd l0 aa))+(rd l1 aa))%4294967296)) [.int .u16 (IntKind.u16.wrap (((ab+(rd l0 aa))+(rd l1 aa))%4294967296))] (fun _=>True) (fun _=>False) rfl rfl ?aP (fun _ hk=>hk.elim) ?aF ?aO ?aB ?aS ?aL ?_;(case aP=>exact rfl);(case aB=>exact(khu HB.out));(case aF=>exact(fun _ _=>trivial));(case aO=>exact(kru ad.out));(case aS=>exact(below_size (khu HB.out)));(case aL=>have:=aD.out;omega);intro bf w11 ho hb hg hat;rw[←aE.out]at ho;replace HB:=Aside0.mk (hb);have aH:=Aside0.mk (ho);clear ad;clear ho hb hg hat))
          go_roundg kj2
          case measure=>have:=HK1.out;have:=HJ2.out;omega
          case rel=>exact⟨(ay),((((ab+(rd l0 aa))+(rd l1 aa))%4294967296)/65536),(wrap64 (aa+1)),J0,J0,H',⟨X6⟩,⟨kru aH.out⟩,⟨khu HB.out⟩⟩
         rw[if_neg c10]at H
         exact absurd H Z1
        rw[if_neg c9]at H
        have aX:decide (aa<(l1.length:Int))=false:=decide_eq_false c9
        clear c9
        by_cases c12:ac.length<70368744177664
        ·rw[if_pos c12]at H
         have aI:=Aside0.mk c12
         clear c12
         obtain⟨az,ai⟩:∃y_:List Int,y_=(ac++[IntKind.u16.wrap ((ab+(rd l0 aa))%4294967296)]):=⟨_,rfl⟩
         replace H:(tribunalref02_addD.l0 kj2 l0 l1 az (((ab+(rd l0 aa))%4294967296)/65536) (wrap64 (aa+1)))=some r:=by first|(rw[ai];with_reducible exact H)|(have H2_:=(Option.bind_some _ _).symm.trans H;rw[ai];with_reducible exact H2_)|(have H2_:=(Option.bind_some _ _).symm.trans H;with_reducible exact H2_)|with_reducible exact H|(rw[ai];exact H)|exact H
         have aJ:=Aside0.mk ai
         clear ai
         have H':=Aside0.mk H
         clear H
         have af:0≤(aa:Int):=of_decide_eq_true ‹_›
         have ag:aa<(l0.length:Int):=of_decide_eq_true ‹_›
         obtain⟨aG,ap,ae⟩:=Kd.at_int HR0.out aa af ag
         cases ap
         replace ae:=(HB.out.cell (World.block_lt_of_cell? w _ ae)).trans ae
         replace af:=eq_true af
         replace ag:=eq_true ag
         go_wp2_with (first|((with_reducible refine gate_builtin (b:=.append) (xs:=#[.tmp 46,.tmp 49]) rfl ?_);(try(refine gate_guard F0 ?_;dsimp only));at_builtin;refine Kd.R_append (Kd.int .u16) (w0:=w) w.heap.size rfl (.tmp 46) (.tmp 49) 79 127 (.int .u16 0) 2 rfl Tryz.underlying79 info127 rfl X0 Z0 u5 ac (IntKind.u16.wrap ((ab+(rd l0 aa))%4294967296)) [.int .u16 (IntKind.u16.wrap ((ab+(rd l0 aa))%4294967296))] (fun _=>True) (fun _=>False) rfl rfl ?aP (fun _ hk=>hk.elim) ?aF ?aO ?aB ?aS ?aL ?_;(case aP=>exact rfl);(case aB=>exact(khu HB.out));(case aF=>exact(fun _ _=>trivial));(case aO=>exact(kru ad.out));(case aS=>exact(below_size (khu HB.out)));(case aL=>have:=aI.out;omega);intro bg w13 ho hb hg hat;rw[←aJ.out]at ho;replace HB:=Aside0.mk (hb);have aK:=Aside0.mk (ho);clear ad;clear ho hb hg hat))
         go_roundg kj2
         case measure=>have:=HK1.out;have:=HJ2.out;omega
         case rel=>exact⟨(az),(((ab+(rd l0 aa))%4294967296)/65536),(wrap64 (aa+1)),J0,J0,H',⟨X6⟩,⟨kru aK.out⟩,⟨khu HB.out⟩⟩
        rw[if_neg c12]at H
        exact absurd H Z1
       rw[if_neg c8]at H
       exact absurd H Z1
      rw[if_neg c7]at H
      have aW:decide (aa<(l0.length:Int))=false:=decide_eq_false c7
      clear c7
      by_cases c14:aa<(l1.length:Int)
      ·rw[if_pos c14]at H
       have aM:decide (aa<(l1.length:Int))=true:=decide_eq_true c14
       clear c14
       by_cases c15:0≤aa
       ·rw[if_pos c15]at H
        have bc:decide (0≤aa)=true:=decide_eq_true c15
        clear c15
        by_cases c16:ac.length<70368744177664
        ·rw[if_pos c16]at H
         have aN:=Aside0.mk c16
         clear c16
         obtain⟨aA,aj⟩:∃y_:List Int,y_=(ac++[IntKind.u16.wrap ((ab+(rd l1 aa))%4294967296)]):=⟨_,rfl⟩
         replace H:(tribunalref02_addD.l0 kj2 l0 l1 aA (((ab+(rd l1 aa))%4294967296)/65536) (wrap64 (aa+1)))=some r:=by first|(rw[aj];with_reducible exact H)|(have H2_:=(Option.bind_some _ _).symm.trans H;rw[aj];with_reducible exact H2_)|(have H2_:=(Option.bind_some _ _).symm.trans H;with_reducible exact H2_)|with_reducible exact H|(rw[aj];exact H)|exact H
         have aQ:=Aside0.mk aj
         clear aj
         have H':=Aside0.mk H
         clear H
         have au:0≤(aa:Int):=of_decide_eq_true ‹_›
         have av:aa<(l1.length:Int):=of_decide_eq_true ‹_›
         obtain⟨bd,aZ,an⟩:=Kd.at_int HR1.out aa au av
         cases aZ
         replace an:=(HB.out.cell (World.block_lt_of_cell? w _ an)).trans an
         replace au:=eq_true au
         replace av:=eq_true av
         go_wp2_with (first|((with_reducible refine gate_builtin (b:=.append) (xs:=#[.tmp 46,.tmp 49]) rfl ?_);(try(refine gate_guard F0 ?_;dsimp only));at_builtin;refine Kd.R_append (Kd.int .u16) (w0:=w) w.heap.size rfl (.tmp 46) (.tmp 49) 79 127 (.int .u16 0) 2 rfl Tryz.underlying79 info127 rfl X0 Z0 u5 ac (IntKind.u16.wrap ((ab+(rd l1 aa))%4294967296)) [.int .u16 (IntKind.u16.wrap ((ab+(rd l1 aa))%4294967296))] (fun _=>True) (fun _=>False) rfl rfl ?aP (fun _ hk=>hk.elim) ?aF ?aO ?aB ?aS ?aL ?_;(case aP=>exact rfl);(case aB=>exact(khu HB.out));(case aF=>exact(fun _ _=>trivial));(case aO=>exact(kru ad.out));(case aS=>exact(below_size (khu HB.out)));(case aL=>have:=aN.out;omega);intro bh w17 ho hb hg hat;rw[←aQ.out]at ho;replace HB:=Aside0.mk (hb);have aR:=Aside0.mk (ho);clear ad;clear ho hb hg hat))
         go_roundg kj2
         case measure=>have:=HK1.out;have:=HJ2.out;omega
         case rel=>exact⟨(aA),(((ab+(rd l1 aa))%4294967296)/65536),(wrap64 (aa+1)),J0,J0,H',⟨X6⟩,⟨kru aR.out⟩,⟨khu HB.out⟩⟩
        rw[if_neg c16]at H
        exact absurd H Z1
       rw[if_neg c15]at H
       exact absurd H Z1
      rw[if_neg c14]at H
      have aM:decide (aa<(l1.length:Int))=false:=decide_eq_false c14
      clear c14
      by_cases c18:ac.length<70368744177664
      ·rw[if_pos c18]at H
       have aT:=Aside0.mk c18
       clear c18
       obtain⟨aC,ak⟩:∃y_:List Int,y_=(ac++[IntKind.u16.wrap (ab)]):=⟨_,rfl⟩
       replace H:(tribunalref02_addD.l0 kj2 l0 l1 aC (ab/65536) (wrap64 (aa+1)))=some r:=by first|(rw[ak];with_reducible exact H)|(have H2_:=(Option.bind_some _ _).symm.trans H;rw[ak];with_reducible exact H2_)|(have H2_:=(Option.bind_some _ _).symm.trans H;with_reducible exact H2_)|with_reducible exact H|(rw[ak];exact H)|exact H
       have aU:=Aside0.mk ak
       clear ak
       have H':=Aside0.mk H
       clear H
       go_wp2_with (first|((with_reducible refine gate_builtin (b:=.append) (xs:=#[.tmp 46,.tmp 49]) rfl ?_);(try(refine gate_guard F0 ?_;dsimp only));at_builtin;refine Kd.R_append (Kd.int .u16) (w0:=w) w.heap.size rfl (.tmp 46) (.tmp 49) 79 127 (.int .u16 0) 2 rfl Tryz.underlying79 info127 rfl X0 Z0 u5 ac (IntKind.u16.wrap (ab)) [.int .u16 (IntKind.u16.wrap (ab))] (fun _=>True) (fun _=>False) rfl rfl ?aP (fun _ hk=>hk.elim) ?aF ?aO ?aB ?aS ?aL ?_;(case aP=>exact rfl);(case aB=>exact(khu HB.out));(case aF=>exact(fun _ _=>trivial));(case aO=>exact(kru ad.out));(case aS=>exact(below_size (khu HB.out)));(case aL=>have:=aT.out;omega);intro bi w19 ho hb hg hat;rw[←aU.out]at ho;replace HB:=Aside0.mk (hb);have aV:=Aside0.mk (ho);clear ad;clear ho hb hg hat))
       go_roundg kj2
       case measure=>have:=HK1.out;have:=HJ2.out;omega
       case rel=>exact⟨(aC),(ab/65536),(wrap64 (aa+1)),J0,J0,H',⟨X6⟩,⟨kru aV.out⟩,⟨khu HB.out⟩⟩
      rw[if_neg c18]at H
      exact absurd H Z1
     replace c6:=Bool.eq_false_iff.mpr c6
     subst c6
     have H1:(some ac)=some r:=by rw[if_neg (show ¬(false=true) by decide)]at H;exact H
     clear H
     have H:=H1
     clear H1
     obtain rfl:=Option.some.inj H
     go_wp2
     go_ret
     exact⟨_,D0,kru ad.out,khu HB.out⟩
def tribunalref02_subD.l0:Nat→List Int→List Int→List Int→Int→Int→Option (List Int)
 | 0,_,_,_,_,_=>none
 | k+1,x0,x1,x5,x6,x7=>if x7<(x0.length:Int) then(if 0≤x7 then(if x7<(x1.length:Int) then(if(wrap32 ((wrap32 ((wrap32 (rd x0 x7))-x6))-(wrap32 (rd x1 x7))))<0 then(if x5.length<70368744177664 then(tribunalref02_subD.l0 k x0 x1 (x5++[IntKind.u16.wrap (wrap32 ((wrap32 ((wrap32 ((wrap32 (rd x0 x7))-x6))-(wrap32 (rd x1 x7))))+65536))]) 1 (wrap64 (x7+1))) else(none)) else(if x5.length<70368744177664 then(tribunalref02_subD.l0 k x0 x1 (x5++[IntKind.u16.wrap (wrap32 ((wrap32 ((wrap32 (rd x0 x7))-x6))-(wrap32 (rd x1 x7))))]) 0 (wrap64 (x7+1))) else(none))) else(if(wrap32 ((wrap32 (rd x0 x7))-x6))<0 then(if x5.length<70368744177664 then(tribunalref02_subD.l0 k x0 x1 (x5++[IntKind.u16.wrap (wrap32 ((wrap32 ((wrap32 (rd x0 x7))-x6))+65536))]) 1 (wrap64 (x7+1))) else(none)) else(if x5.length<70368744177664 then(tribunalref02_subD.l0 k x0 x1 (x5++[IntKind.u16.wrap (wrap32 ((wrap32 (rd x0 x7))-x6))]) 0 (wrap64 (x7+1))) else(none)))) else(none)) else((tribunalref02_trim.f k x5).bind fun t990=>(some t990))
def tribunalref02_subD.f (k:Nat) (l0:List Int) (l1:List Int):Option (List Int):=tribunalref02_subD.l0 k l0 l1 ([]:List Int) 0 0
theorem tribunalref02_subD.calls (k:Nat) (A0:Option Addr) (c0:Nat) (l0:List Int) (A1:Option Addr) (c1:Nat) (l1:List Int) (r:List Int) (w:World) (hr0:Kd.C (Kd.int .u16) w A0 l0.length l0) (hc0:l0.length≤c0) (hr1:Kd.C (Kd.int .u16) w A1 l1.length l1) (hc1:l1.length≤c1) (h:tribunalref02_subD.f k l0 l1=some r) :
  Calls Tryz.prog 151 #[.slice A0 l0.length c0,.slice A1 l1.length c1] w fun e w'=>∃v0_:Value,e=.returned (v0_)∧Kd.V (Kd.int .u16) 127 w' w.heap.size (fun k_=>(w.heap.size≤k_)) v0_ r∧Below w.heap.size w w':=by
 have HR0:=Aside0.mk hr0
 have HC0:=Aside0.mk hc0
 clear hr0 hc0
 have HR1:=Aside0.mk hr1
 have HC1:=Aside0.mk hc1
 clear hr1 hc1
 have HB:=Aside0.mk (Below.refl w.heap.size w)
 have H:(tribunalref02_subD.l0 k l0 l1 ([]:List Int) 0 0)=some r:=h
 clear h
 have H':=Aside0.mk H
 clear H
 go_enter Tryz.func151,Tryz.ntmps151
 go_wp2
 go_loopg [5,6,7] k (fun kq v5 v6 v7 w'=>∃(ad:List Int) (ac:Int) (aa:Int),v6=.int .i32 ac∧v7=.int .i64 aa∧Aside0 (tribunalref02_subD.l0 kq l0 l1 ad ac aa=some r)∧Aside0 (kq≤k)∧Aside0 (Kd.R (Kd.int .u16) 127 w' w.heap.size (fun k_=>(w.heap.size≤k_)) v5 ad)∧Aside0 (Below w.heap.size w w'))
 case atStart=>exact⟨(([]:List Int)),(0),(0),J0,J0,H',⟨Nat.le_refl _⟩,⟨F1⟩,⟨khu HB.out⟩⟩
 case round=>
  clear H'
  try clear c1
  try clear p2
  obtain⟨ad,ac,aa,rfl,rfl,HA,HK1,ag,HB⟩:=hrel
  cases gk with
  | zero=>exact absurd HA.out (by simp[tribunalref02_subD.l0])
  | succ k1=>
   have H:=HA.out
   clear HA
   simp only[tribunalref02_subD.l0]at H
   by_cases c3:aa<(l0.length:Int)
   ·rw [if_pos c3]at H
    have aU:decide (aa<(l0.length:Int))=true:=decide_eq_true c3
    clear c3
    by_cases c4:0≤aa
    ·rw [if_pos c4]at H
     have bd:decide (0≤aa)=true:=decide_eq_true c4
     clear c4
     by_cases c5:aa<(l1.length:Int)
     ·rw[if_pos c5]at H
      have aV:decide (aa<(l1.length:Int))=true:=decide_eq_true c5
      clear c5
      by_cases c6:(wrap32 ((wrap32 ((wrap32 (rd l0 aa))-ac))-(wrap32 (rd l1 aa))))<0
      ·rw[if_pos c6]at H
       have aW:decide ((wrap32 ((wrap32 ((wrap32 (rd l0 aa))-ac))-(wrap32 (rd l1 aa))))<0)=true:=decide_eq_true c6
       clear c6
       by_cases c7:ad.length<70368744177664
       ·rw[if_pos c7]at H
        have aX:=Aside0.mk c7
        clear c7
        obtain⟨av,an⟩:∃y_:List Int,y_=(ad++[IntKind.u16.wrap (wrap32 ((wrap32 ((wrap32 ((wrap32 (rd l0 aa))-ac))-(wrap32 (rd l1 aa))))+65536))]):=⟨_,rfl⟩
        replace H:(tribunalref02_subD.l0 k1 l0 l1 av 1 (wrap64 (aa+1)))=some r:=by first|(rw[an];with_reducible exact H)|(have H2_:=(Option.bind_some _ _).symm.trans H;rw[an];with_reducible exact H2_)|(have H2_:=(Option.bind_some _ _).symm.trans H;with_reducible exact H2_)|with_reducible exact H|(rw[an];exact H)|exact H
        have aI:=Aside0.mk an
        clear an
        have H':=Aside0.mk H
        clear H
        have ae:0≤(aa:Int):=of_decide_eq_true ‹_›
        have af:aa<(l0.length:Int):=of_decide_eq_true ‹_›
        obtain⟨ap,ak,ab⟩:=Kd.at_int HR0.out aa ae af
        cases ak
        replace ab:=(HB.out.cell (World.block_lt_of_cell? w _ ab)).trans ab
        replace ae:=eq_true ae
        replace af:=eq_true af
        have al:0≤(aa:Int):=of_decide_eq_true ‹_›
        have am:aa<(l1.length:Int):=of_decide_eq_true ‹_›
        obtain⟨aJ,aq,ah⟩:=Kd.at_int HR1.out aa al am
        cases aq
        replace ah:=(HB.out.cell (World.block_lt_of_cell? w _ ah)).trans ah
        replace al:=eq_true al
        replace am:=eq_true am
        go_wp2_with (first|((with_reducible refine gate_builtin (b:=.append) (xs:=#[.tmp 37,.tmp 40]) rfl ?_);at_builtin;refine Kd.R_append (Kd.int .u16) (w0:=w) w.heap.size rfl (.tmp 37) (.tmp 40) 79 127 (.int .u16 0) 2 rfl Tryz.underlying79 info127 rfl X0 Z0 u5 ad (IntKind.u16.wrap (wrap32 ((wrap32 ((wrap32 ((wrap32 (rd l0 aa))-ac))-(wrap32 (rd l1 aa))))+65536))) [.int .u16 (IntKind.u16.wrap (wrap32 ((wrap32 ((wrap32 ((wrap32 (rd l0 aa))-ac))-(wrap32 (rd l1 aa))))+65536)))] (fun k_=>(w.heap.size≤k_)) (fun _=>False) rfl rfl ?aP (fun _ hk=>hk.elim) ?aF ?aO ?aB ?aS ?aL ?_;(case aP=>exact rfl);(case aB=>exact(khu HB.out));(case aF=>exact(fun k_ hk=>(Nat.le_trans (below_size (khu HB.out)) hk)));(case aO=>exact(kru ag.out));(case aS=>exact(below_size (khu HB.out)));(case aL=>have:=aX.out;omega);intro be w8 ho hb hg hat;rw[←aI.out]at ho;replace HB:=Aside0.mk (hb);have aK:=Aside0.mk (ho);clear ag;clear ho hb hg hat))
        go_roundg k1
        case measure=>have:=HK1.out;omega
        case rel=>exact⟨(av),(1),(wrap64 (aa+1)),J0,J0,H',⟨X2⟩,⟨kru aK.out⟩,⟨khu HB.out⟩⟩
       rw[if_neg c7]at H
       exact absurd H Z1
      rw[if_neg c6]at H
      have aW:decide ((wrap32 ((wrap32 ((wrap32 (rd l0 aa))-ac))-(wrap32 (rd l1 aa))))<0)=false:=decide_eq_false c6
      clear c6
      by_cases c9:ad.length<70368744177664
      ·rw[if_pos c9]at H
       have aY:=Aside0.mk c9
       clear c9
       obtain⟨aw,ao⟩:∃y_:List Int,y_=(ad++[IntKind.u16.wrap (wrap32 ((wrap32 ((wrap32 (rd l0 aa))-ac))-(wrap32 (rd l1 aa))))]):=⟨_,rfl⟩
       replace H:(tribunalref02_subD.l0 k1 l0 l1 aw 0 (wrap64 (aa+1)))=some r:=by first|(rw[ao];with_reducible exact H)|(have H2_:=(Option.bind_some _ _).symm.trans H;rw[ao];with_reducible exact H2_)|(have H2_:=(Option.bind_some _ _).symm.trans H;with_reducible exact H2_)|with_reducible exact H|(rw[ao];exact H)|exact H
       have aM:=Aside0.mk ao
       clear ao
       have H':=Aside0.mk H
       clear H
       have ae:0≤(aa:Int):=of_decide_eq_true ‹_›
       have af:aa<(l0.length:Int):=of_decide_eq_true ‹_›
       obtain⟨ap,ak,ab⟩:=Kd.at_int HR0.out aa ae af
       cases ak
       replace ab:=(HB.out.cell (World.block_lt_of_cell? w _ ab)).trans ab
       replace ae:=eq_true ae
       replace af:=eq_true af
       have al:0≤(aa:Int):=of_decide_eq_true ‹_›
       have am:aa<(l1.length:Int):=of_decide_eq_true ‹_›
       obtain⟨aJ,aq,ah⟩:=Kd.at_int HR1.out aa al am
       cases aq
       replace ah:=(HB.out.cell (World.block_lt_of_cell? w _ ah)).trans ah
       replace al:=eq_true al
       replace am:=eq_true am
       go_wp2_with (first|((with_reducible refine gate_builtin (b:=.append) (xs:=#[.tmp 37,.tmp 40]) rfl ?_);at_builtin;refine Kd.R_append (Kd.int .u16) (w0:=w) w.heap.size rfl (.tmp 37) (.tmp 40) 79 127 (.int .u16 0) 2 rfl Tryz.underlying79 info127 rfl X0 Z0 u5 ad (IntKind.u16.wrap (wrap32 ((wrap32 ((wrap32 (rd l0 aa))-ac))-(wrap32 (rd l1 aa))))) [.int .u16 (IntKind.u16.wrap (wrap32 ((wrap32 ((wrap32 (rd l0 aa))-ac))-(wrap32 (rd l1 aa)))))] (fun k_=>(w.heap.size≤k_)) (fun _=>False) rfl rfl ?aP (fun _ hk=>hk.elim) ?aF ?aO ?aB ?aS ?aL ?_;(case aP=>exact rfl);(case aB=>exact(khu HB.out));(case aF=>exact(fun k_ hk=>(Nat.le_trans (below_size (khu HB.out)) hk)));(case aO=>exact(kru ag.out));(case aS=>exact(below_size (khu HB.out)));(case aL=>have:=aY.out;omega);intro bf w10 ho hb hg hat;rw[←aM.out]at ho;replace HB:=Aside0.mk (hb);have ax:=Aside0.mk (ho);clear ag;clear ho hb hg hat))
       go_roundg k1
       case measure=>have:=HK1.out;omega
       case rel=>exact⟨(aw),(0),(wrap64 (aa+1)),J0,J0,H',⟨X2⟩,⟨kru ax.out⟩,⟨khu HB.out⟩⟩
      rw[if_neg c9]at H
      exact absurd H Z1
     rw[if_neg c5]at H
     have aV:decide (aa<(l1.length:Int))=false:=decide_eq_false c5
     clear c5
     by_cases c11:(wrap32 ((wrap32 (rd l0 aa))-ac))<0
     ·rw[if_pos c11]at H
      have aN:decide ((wrap32 ((wrap32 (rd l0 aa))-ac))<0)=true:=decide_eq_true c11
      clear c11
      by_cases c12:ad.length<70368744177664
      ·rw[if_pos c12]at H
       have aQ:=Aside0.mk c12
       clear c12
       obtain⟨ar,ai⟩:∃y_:List Int,y_=(ad++[IntKind.u16.wrap (wrap32 ((wrap32 ((wrap32 (rd l0 aa))-ac))+65536))]):=⟨_,rfl⟩
       replace H:(tribunalref02_subD.l0 k1 l0 l1 ar 1 (wrap64 (aa+1)))=some r:=by first|(rw[ai];with_reducible exact H)|(have H2_:=(Option.bind_some _ _).symm.trans H;rw[ai];with_reducible exact H2_)|(have H2_:=(Option.bind_some _ _).symm.trans H;with_reducible exact H2_)|with_reducible exact H|(rw[ai];exact H)|exact H
       have ay:=Aside0.mk ai
       clear ai
       have H':=Aside0.mk H
       clear H
       have ae:0≤(aa:Int):=of_decide_eq_true ‹_›
       have af:aa<(l0.length:Int):=of_decide_eq_true ‹_›
       obtain⟨ap,ak,ab⟩:=Kd.at_int HR0.out aa ae af
       cases ak
       replace ab:=(HB.out.cell (World.block_lt_of_cell? w _ ab)).trans ab
       replace ae:=eq_true ae
       replace af:=eq_true af
       go_wp2_with (first|((with_reducible refine gate_builtin (b:=.append) (xs:=#[.tmp 37,.tmp 40]) rfl ?_);at_builtin;refine Kd.R_append (Kd.int .u16) (w0:=w) w.heap.size rfl (.tmp 37) (.tmp 40) 79 127 (.int .u16 0) 2 rfl Tryz.underlying79 info127 rfl X0 Z0 u5 ad (IntKind.u16.wrap (wrap32 ((wrap32 ((wrap32 (rd l0 aa))-ac))+65536))) [.int .u16 (IntKind.u16.wrap (wrap32 ((wrap32 ((wrap32 (rd l0 aa))-ac))+65536)))] (fun k_=>(w.heap.size≤k_)) (fun _=>False) rfl rfl ?aP (fun _ hk=>hk.elim) ?aF ?aO ?aB ?aS ?aL ?_;(case aP=>exact rfl);(case aB=>exact(khu HB.out));(case aF=>exact(fun k_ hk=>(Nat.le_trans (below_size (khu HB.out)) hk)));(case aO=>exact(kru ag.out));(case aS=>exact(below_size (khu HB.out)));(case aL=>have:=aQ.out;omega);intro bb w13 ho hb hg hat;rw[←ay.out]at ho;replace HB:=Aside0.mk (hb);have az:=Aside0.mk (ho);clear ag;clear ho hb hg hat))
       go_roundg k1
       case measure=>have:=HK1.out;omega
       case rel=>exact⟨(ar),(1),(wrap64 (aa+1)),J0,J0,H',⟨X2⟩,⟨kru az.out⟩,⟨khu HB.out⟩⟩
      rw[if_neg c12]at H
      exact absurd H Z1
     rw[if_neg c11]at H
     have aN:decide ((wrap32 ((wrap32 (rd l0 aa))-ac))<0)=false:=decide_eq_false c11
     clear c11
     by_cases c14:ad.length<70368744177664
     ·rw[if_pos c14]at H
      have aR:=Aside0.mk c14
      clear c14
      obtain⟨au,aj⟩:∃y_:List Int,y_=(ad++[IntKind.u16.wrap (wrap32 ((wrap32 (rd l0 aa))-ac))]):=⟨_,rfl⟩
      replace H:(tribunalref02_subD.l0 k1 l0 l1 au 0 (wrap64 (aa+1)))=some r:=by first|(rw[aj];with_reducible exact H)|(have H2_:=(Option.bind_some _ _).symm.trans H;rw[aj];with_reducible exact H2_)|(have H2_:=(Option.bind_some _ _).symm.trans H;with_reducible exact H2_)|with_reducible exact H|(rw[aj];exact H)|exact H
      have aA:=Aside0.mk aj
      clear aj
      have H':=Aside0.mk H
      clear H
      have ae:0≤(aa:Int):=of_decide_eq_true ‹_›
      have af:aa<(l0.length:Int):=of_decide_eq_true ‹_›
      obtain⟨ap,ak,ab⟩:=Kd.at_int HR0.out aa ae af
      cases ak
      replace ab:=(HB.out.cell (World.block_lt_of_cell? w _ ab)).trans ab
      replace ae:=eq_true ae
      replace af:=eq_true af
      go_wp2_with (first|((with_reducible refine gate_builtin (b:=.append) (xs:=#[.tmp 37,.tmp 40]) rfl ?_);at_builtin;refine Kd.R_append (Kd.int .u16) (w0:=w) w.heap.size rfl (.tmp 37) (.tmp 40) 79 127 (.int .u16 0) 2 rfl Tryz.underlying79 info127 rfl X0 Z0 u5 ad (IntKind.u16.wrap (wrap32 ((wrap32 (rd l0 aa))-ac))) [.int .u16 (IntKind.u16.wrap (wrap32 ((wrap32 (rd l0 aa))-ac)))] (fun k_=>(w.heap.size≤k_)) (fun _=>False) rfl rfl ?aP (fun _ hk=>hk.elim) ?aF ?aO ?aB ?aS ?aL ?_;(case aP=>exact rfl);(case aB=>exact(khu HB.out));(case aF=>exact(fun k_ hk=>(Nat.le_trans (below_size (khu HB.out)) hk)));(case aO=>exact(kru ag.out));(case aS=>exact(below_size (khu HB.out)));(case aL=>have:=aR.out;omega);intro bc w15 ho hb hg hat;rw[←aA.out]at ho;replace HB:=Aside0.mk (hb);have aC:=Aside0.mk (ho);clear ag;clear ho hb hg hat))
      go_roundg k1
      case measure=>have:=HK1.out;omega
      case rel=>exact⟨(au),(0),(wrap64 (aa+1)),J0,J0,H',⟨X2⟩,⟨kru aC.out⟩,⟨khu HB.out⟩⟩
     rw[if_neg c14]at H
     exact absurd H Z1
    rw[if_neg c4]at H
    exact absurd H Z1
   rw[if_neg c3]at H
   have aU:decide (aa<(l0.length:Int))=false:=decide_eq_false c3
   clear c3
   replace H:=Option.bind_eq_some_iff.mp H
   obtain⟨aD,aE,H⟩:=H
   replace H:(some aD)=some r:=H
   have A16:=Aside0.mk aE
   clear aE
   obtain rfl:=Option.some.inj H
   obtain⟨aG,aH,aZ⟩:=Kd.R_slice ag.out
   subst aZ
   go_wp2_with (first|((with_reducible refine gate_callee (f:=155) rfl ?_);refine kgl (some 43) rfl rfl Tryz.func155 #[.slice aG ad.length aH] rfl ?_;(with_reducible refine(tribunalref02_trim.calls k1 (fun k_=>some k_=(.slice aG ad.length aH:Value).ownBlock) _ _ ad aD _ ?side1 A16.out).mono ?_);(case side1=>exact Kd.R_V (Kd.R_tight rfl (ag.out)));rintro e w18 ⟨bg,rfl,ho0,hb⟩;refine⟨_,rfl,?_⟩;have aT:=Aside0.mk (Kd.V_lower (Kd.V_mono (ok':=fun k_=>(w.heap.size≤k_)) ho0 (fun k_ hk_=>Or.elim hk_ (fun hs_=>((ag.out).1 k_ hs_.symm)) (fun hn_=>(Nat.le_trans (below_size (khu HB.out)) hn_)))) (below_size (khu HB.out)));replace ag:=krb ag hb;replace HB:=kbs HB hb;(try clear hb);(try clear hb2);(try clear hk);(try clear hi);(try clear ho0)))
   go_ret
   exact⟨_,D0,kvu aT.out,khu HB.out⟩
def tribunalref02_Plus.f (k:Nat) (a0_0:Bool) (l0_1:List Int) (a1_0:Bool) (l1_1:List Int):Option (Bool×List Int):=if(a0_0==a1_0)=true then((tribunalref02_addD.f k l0_1 l1_1).bind fun t1010=>((tribunalref02_Make.f k a0_0 t1010).bind fun bt1013=>(some (bt1013.1,bt1013.2)))) else((tribunalref02_cmpD.f k l0_1 l1_1).bind fun t1017=>(if t1017≥0 then((tribunalref02_subD.f k l0_1 l1_1).bind fun t1018=>((tribunalref02_Make.f k a0_0 t1018).bind fun bt1021=>(some (bt1021.1,bt1021.2)))) else((tribunalref02_subD.f k l1_1 l0_1).bind fun t1025=>((tribunalref02_Make.f k a1_0 t1025).bind fun bt1028=>(some (bt1028.1,bt1028.2))))))
def tribunalref02_Plus.T2:Bool×List (List Nat×List Nat):=(true,[([],[]),([0],[0]),([],[]),([2],[2]),([],[]),([4],[4]),([3,5],[3,5]),([1,6,6],[1,6]),([7,7,0,1,2,3,4,5,6,7],[7])])
def tribunalref02_Plus.B2:List Nat:=[0,1,0,4,0,16,60,127,255]
theorem tribunalref02_Plus.tab2:rtab .any (opsOf Tryz.f82 2)=tribunalref02_Plus.T2:=by kernel_rfl
theorem tribunalref02_Plus.bits2:waitsOk tribunalref02_Plus.T2.2 tribunalref02_Plus.B2=true:=by kernel_rfl
def tribunalref02_Plus.T4:Bool×List (List Nat×List Nat):=(true,[([],[]),([0],[0]),([],[]),([2],[2]),([],[]),([4],[4]),([3,5],[3,5]),([1,6,6],[1,6]),([7,7,0,1,2,3,4,5,6,7],[7])])
def tribunalref02_Plus.B4:List Nat:=[0,1,0,4,0,16,60,127,255]
theorem tribunalref02_Plus.tab4:rtab .any (opsOf Tryz.f82 4)=tribunalref02_Plus.T4:=by kernel_rfl
theorem tribunalref02_Plus.bits4:waitsOk tribunalref02_Plus.T4.2 tribunalref02_Plus.B4=true:=by kernel_rfl
def tribunalref02_Plus.T5:Bool×List (List Nat×List Nat):=(true,[([],[]),([0],[0]),([],[]),([2],[2]),([],[]),([4],[4]),([3,5],[3,5]),([1,6,6],[1,6]),([7,7,0,1,2,3,4,5,6,7],[7])])
def tribunalref02_Plus.B5:List Nat:=[0,1,0,4,0,16,60,127,255]
theorem tribunalref02_Plus.tab5:rtab .any (opsOf Tryz.f82 5)=tribunalref02_Plus.T5:=by kernel_rfl
theorem tribunalref02_Plus.bits5:waitsOk tribunalref02_Plus.T5.2 tribunalref02_Plus.B5=true:=by kernel_rfl
theorem tribunalref02_Plus.calls (k:Nat) (ac:Bool) (ad:Option Addr) (ae:Nat) (aa:List Int) (af:Bool) (ag:Option Addr) (ah:Nat) (ab:List Int) (r1:Bool) (r2:List Int) (w:World) (ak:Kd.C (Kd.int .u16) w ad aa.length aa) (al:aa.length≤ae) (am:Kd.C (Kd.int .u16) w ag ab.length ab) (an:ab.length≤ah) (h:tribunalref02_Plus.f k ac aa af ab=some (r1,r2)) :
  Calls Tryz.prog 82 #[.agg #[.bool ac,.slice ad aa.length ae],.agg #[.bool af,.slice ag ab.length ah]] w fun e w'=>∃v1_:Value,e=.returned (.agg #[.bool r1,v1_])∧Kd.V (Kd.int .u16) 127 w' w.heap.size (fun k_=>(w.heap.size≤k_)) v1_ r2∧Below w.heap.size w w':=by
 have au:=Tryz.underlying81
 have K:=Kp.refl w
 replace K:=K.parV (Kd.V_mono (ok':=fun k=>k<w.heap.size) (Kd.V_mk (e:=127) (base:=0) al (Kd.C_F (Kd.heap_int .u16) ak)) (fun _ h=>h))
 clear ak al
 replace K:=K.parV (Kd.V_mono (ok':=fun k=>k<w.heap.size) (Kd.V_mk (e:=127) (base:=0) an (Kd.C_F (Kd.heap_int .u16) am)) (fun _ h=>h))
 clear am an
 try simp only[klv]at K
 rw[tribunalref02_Plus.f]at h
 by_cases c_0:(ac==af)=true
 ·rw[if_pos c_0]at h
  have aq:decide (ac=af)=true:=by simpa using c_0
  go_enter Tryz.func82,Tryz.ntmps82
  go_wp2_with (first|(refine gd 2 rfl ?_;refine kbk 2 #[.bool ac,.slice ad aa.length ae] 81 K.u ?_;clear K;intro g1 W2 K)|(refine gd 3 rfl ?_;refine kbk 3 #[.bool af,.slice ag ab.length ah] 81 K.u ?_;clear K;intro g3 W4 K)|(refine gd 4 rfl ?_;refine kbk 4 #[.bool false,.slice none 0 0] 81 K.u ?_;clear K;intro g5 W6 K;obtain⟨ua0,ub0⟩:=K.cell2 0 rfl;obtain⟨ua1,ub1⟩:=K.cell2 1 rfl))
  clear ua0 ub0 ua1 ub1
  replace h:=bindA h
  obtain⟨x7,A8,h⟩:=h
  replace h:=bindA h
  obtain⟨⟨z9,x10⟩,A11,h⟩:=h
  dsimp only at h
  obtain⟨Bs,Vs,Os,hBs,hVs,hOs,K⟩:=K.abs
  have HS:Aside0 (∀l m o W,Kp w (Bs++l) m o W→W.cell? ⟨g1,0,none⟩=some (.bool ac)∧W.cell? ⟨g1,1,none⟩=some (.slice ad aa.length ae)∧W.cell? ⟨g3,0,none⟩=some (.bool af)∧W.cell? ⟨g3,1,none⟩=some (.slice ag ab.length ah)):=⟨fun l m o W K=>by rw[hBs.out]at K;exact⟨K.cell 0 rfl 0 rfl,K.cell 0 rfl 1 rfl,K.cell 1 rfl 0 rfl,K.cell 1 rfl 1 rfl⟩⟩
  refine kpstart (n:=9) (ds:=[]) (S:=fun W=>W.cell? ⟨g1,0,none⟩=some (.bool ac)∧W.cell? ⟨g1,1,none⟩=some (.slice ad aa.length ae)∧W.cell? ⟨g3,0,none⟩=some (.bool af)∧W.cell? ⟨g3,1,none⟩=some (.slice ag ab.length ah)) (bm_ 9 0) Y0 rfl rfl K (HS.out [] _ _) (fun W14 K hH=>?_)
  refine with_tabW tribunalref02_Plus.tab2 tribunalref02_Plus.bits2 (fun HT_ HW_=>?_)
  refine pu_ 0 10 ?_ (bm_ 9 1) rfl rfl (any_of HT_.out Y0) (fun _ _ _ h=>h) F0 ?_ ?_ ?_ ?_
  rotate_left
  ·intro w'
   go_simp
   with_reducible rfl
  rotate_left
  ·simp only[Act.put,kss,i64_w,i32_w]
   rfl
  refine tk_ 1 11 ?_ (bm_ 9 3) rfl rfl (take_ofW HT_.out HW_.out Y0) (fun _ _ _ h=>h) F0 ?_ hH ?_ ?_ ?_
  rotate_left
  ·rintro w' ⟨s0,s1,s2,s3⟩
   go_simp
   with_reducible rfl
  rotate_left
  ·simp only[Act.put,kss,i64_w,i32_w]
   rfl
  refine pu_ 2 12 ?_ (bm_ 9 7) rfl rfl (any_of HT_.out Y0) (fun _ _ _ h=>h) F0 ?_ ?_ ?_ ?_
  rotate_left
  ·intro w'
   go_simp
   with_reducible rfl
  rotate_left
  ·simp only[Act.put,kss,i64_w,i32_w]
   rfl
  refine tk_ 3 13 ?_ (bm_ 9 15) rfl rfl (take_ofW HT_.out HW_.out Y0) (fun _ _ _ h=>h) F0 ?_ hH ?_ ?_ ?_
  rotate_left
  ·rintro w' ⟨s0,s1,s2,s3⟩
   go_simp
   with_reducible rfl
  rotate_left
  ·simp only[Act.put,kss,i64_w,i32_w]
   rfl
  refine pu_ 4 14 ?_ (bm_ 9 31) rfl rfl (any_of HT_.out Y0) (fun _ _ _ h=>h) F0 ?_ ?_ ?_ ?_
  rotate_left
  ·intro w'
   go_simp
   with_reducible rfl
  rotate_left
  ·simp only[Act.put,kss,i64_w,i32_w]
   rfl
  refine tk_ 5 15 ?_ (bm_ 9 63) rfl rfl (take_ofW HT_.out HW_.out Y0) (fun _ _ _ h=>h) F0 ?_ hH ?_ ?_ ?_
  rotate_left
  ·rintro w' ⟨s0,s1,s2,s3⟩
   go_simp
   with_reducible rfl
  rotate_left
  ·simp only[Act.put,kss,i64_w,i32_w]
   rfl
  refine one_ (i:=6) (N:=some 16) (bm_ 9 127) rfl rfl (one_of HT_.out Y0) X0 (fun Kc hK=>?_)
  refine kgo Tryz.func150 #[.slice ad aa.length ae,.slice ag ab.length ah] F0 rfl rfl ?_
  refine(tribunalref02_addD.calls _ _ _ aa _ _ ab x7 _ (K.C 0 (hv hVs rfl)) (K.le 0 (hv hVs rfl)) (K.C 1 (hv hVs rfl)) (K.le 1 (hv hVs rfl)) A8.out).mono ?_
  rintro e W' ⟨v12,rfl,ao,hb⟩
  replace K:=K.addRI 0 0 hb ao (lb rfl)
  clear hb ao
  refine⟨_,rfl,hK.out _ _ (HS.out _ _ _ _ K) fun hH=>?_⟩
  clear hK Kc
  refine norm_ (a':=?_) ?_ ?_
  rotate_left
  ·show Act.put _ (some 16) _=_
   simp only[Act.put,kss,i64_w,i32_w]
   rfl
  refine one_ (i:=7) (N:=some 17) (bm_ 9 255) rfl rfl (one_of HT_.out Y0) X0 (fun Kc hK=>?_)
  obtain⟨P16,c17,e18⟩:=K.slice 2 (hv hVs rfl)
  subst e18
  refine kgo Tryz.func92 #[.bool ac,.slice P16 x7.length c17] F0 rfl rfl ?_
  refine(tribunalref02_Make.calls _ ac _ _ _ x7 z9 x10 _ (K.V 2 (hv hVs rfl)) A11.out).mono ?_
  rintro e W' ⟨v13,rfl,ap,hb⟩
  replace K:=K.addI 1 (fun _=>False) hb ap (fun _ h=>h)
  clear hb ap
  refine⟨_,rfl,hK.out _ _ (HS.out _ _ _ _ K) fun hH=>?_⟩
  clear hK Kc
  refine norm_ (a':=?_) ?_ ?_
  rotate_left
  ·show Act.put _ (some 17) _=_
   simp only[Act.put,kss,i64_w,i32_w]
   rfl
  obtain⟨P20,c21,e22⟩:=K.slice 3 (hv hVs rfl)
  subst e22
  rw[hBs.out,hVs.out,hOs.out]at K
  simp only[kls,klv]at K
  clear hBs hVs hOs HS hH
  refine ko2 (i:=8) (bm_ 9 511) 2 (.bool z9) (.slice P20 x10.length c21) K rfl rfl rfl (one_of HT_.out Y0) X0 F0 (fun W K=>⟨K.cell 0 rfl 0 rfl,K.cell 0 rfl 1 rfl,K.cell 1 rfl 0 rfl,K.cell 1 rfl 1 rfl⟩) ?_
  clear K
  intro W23 K
  simp only[kls,klv]at K
  refine done_ (done_of HT_.out Y0) ?_
  clear HT_ HW_
  simp only[Option.some.injEq,Prod.mk.injEq]at h
  obtain⟨rfl,rfl⟩:=h
  go_wp2
  refine bodyPost_ret (results_single rfl (.cell g5 81 #[.bool z9,.slice P20 x10.length c21] (0,0) _ rfl (K.u.heap 2 rfl) Tryz.underlying81 rfl Y0 .nil)) rfl ?_
  exact⟨_,rfl,K.u.hand 3 rfl (fun _ h=>h.elim (fun h=>h.elim) id),K.u.below⟩
 rw[if_neg c_0]at h
 replace c_0:=Bool.eq_false_iff.mpr c_0
 have aq:decide (ac=af)=false:=by simpa using c_0
 replace h:=bindA h
 obtain⟨n7,A8,h⟩:=h
 by_cases c_1:n7≥0
 ·rw[if_pos c_1]at h
  have ar:decide (n7≥0)=true:=decide_eq_true c_1
  go_enter Tryz.func82,Tryz.ntmps82
  go_wp2_with (first|(refine gd 2 rfl ?_;refine kbk 2 #[.bool ac,.slice ad aa.length ae] 81 K.u ?_;clear K;intro g1 W2 K)|(refine gd 3 rfl ?_;refine kbk 3 #[.bool af,.slice ag ab.length ah] 81 K.u ?_;clear K;intro g3 W4 K)|(refine gd 4 rfl ?_;refine kbk 4 #[.bool false,.slice none 0 0] 81 K.u ?_;clear K;intro g5 W6 K;obtain⟨ua0,ub0⟩:=K.cell2 0 rfl;obtain⟨ua1,ub1⟩:=K.cell2 1 rfl)|(refine gd 22 rfl ?_;clear ua0 ub0 ua1 ub1;refine kgl (some 22) rfl rfl Tryz.func90 #[.slice ad aa.length ae,.slice ag ab.length ah] rfl ?_;refine(tribunalref02_cmpD.calls _ _ _ aa _ _ ab n7 _ (K.C 0 rfl) (K.le 0 rfl) (K.C 1 rfl) (K.le 1 rfl) A8.out).mono ?_;rintro e W9 ⟨rfl,hb⟩;refine⟨_,rfl,?_⟩;replace K:=K.u.up hb.below;clear hb))
  replace h:=bindA h
  obtain⟨x10,A11,h⟩:=h
  replace h:=bindA h
  obtain⟨⟨z12,x13⟩,A14,h⟩:=h
  dsimp only at h
  obtain⟨Bs,Vs,Os,hBs,hVs,hOs,K⟩:=K.abs
  have HS:Aside0 (∀l m o W,Kp w (Bs++l) m o W→W.cell? ⟨g1,0,none⟩=some (.bool ac)∧W.cell? ⟨g1,1,none⟩=some (.slice ad aa.length ae)∧W.cell? ⟨g3,0,none⟩=some (.bool af)∧W.cell? ⟨g3,1,none⟩=some (.slice ag ab.length ah)):=⟨fun l m o W K=>by rw[hBs.out]at K;exact⟨K.cell 0 rfl 0 rfl,K.cell 0 rfl 1 rfl,K.cell 1 rfl 0 rfl,K.cell 1 rfl 1 rfl⟩⟩
  refine kpstart (n:=9) (ds:=[]) (S:=fun W=>W.cell? ⟨g1,0,none⟩=some (.bool ac)∧W.cell? ⟨g1,1,none⟩=some (.slice ad aa.length ae)∧W.cell? ⟨g3,0,none⟩=some (.bool af)∧W.cell? ⟨g3,1,none⟩=some (.slice ag ab.length ah)) (bm_ 9 0) Y0 rfl rfl K (HS.out [] _ _) (fun W17 K hH=>?_)
  refine with_tabW tribunalref02_Plus.tab4 tribunalref02_Plus.bits4 (fun HT_ HW_=>?_)
  refine pu_ 0 24 ?_ (bm_ 9 1) rfl rfl (any_of HT_.out Y0) (fun _ _ _ h=>h) F0 ?_ ?_ ?_ ?_
  rotate_left
  ·intro w'
   go_simp
   with_reducible rfl
  rotate_left
  ·simp only[Act.put,kss,i64_w,i32_w]
   rfl
  refine tk_ 1 25 ?_ (bm_ 9 3) rfl rfl (take_ofW HT_.out HW_.out Y0) (fun _ _ _ h=>h) F0 ?_ hH ?_ ?_ ?_
  rotate_left
  ·rintro w' ⟨s0,s1,s2,s3⟩
   go_simp
   with_reducible rfl
  rotate_left
  ·simp only[Act.put,kss,i64_w,i32_w]
   rfl
  refine pu_ 2 26 ?_ (bm_ 9 7) rfl rfl (any_of HT_.out Y0) (fun _ _ _ h=>h) F0 ?_ ?_ ?_ ?_
  rotate_left
  ·intro w'
   go_simp
   with_reducible rfl
  rotate_left
  ·simp only[Act.put,kss,i64_w,i32_w]
   rfl
  refine tk_ 3 27 ?_ (bm_ 9 15) rfl rfl (take_ofW HT_.out HW_.out Y0) (fun _ _ _ h=>h) F0 ?_ hH ?_ ?_ ?_
  rotate_left
  ·rintro w' ⟨s0,s1,s2,s3⟩
   go_simp
   with_reducible rfl
  rotate_left
  ·simp only[Act.put,kss,i64_w,i32_w]
   rfl
  refine pu_ 4 28 ?_ (bm_ 9 31) rfl rfl (any_of HT_.out Y0) (fun _ _ _ h=>h) F0 ?_ ?_ ?_ ?_
  rotate_left
  ·intro w'
   go_simp
   with_reducible rfl
  rotate_left
  ·simp only[Act.put,kss,i64_w,i32_w]
   rfl
  refine tk_ 5 29 ?_ (bm_ 9 63) rfl rfl (take_ofW HT_.out HW_.out Y0) (fun _ _ _ h=>h) F0 ?_ hH ?_ ?_ ?_
  rotate_left
  ·rintro w' ⟨s0,s1,s2,s3⟩
   go_simp
   with_reducible rfl
  rotate_left
  ·simp only[Act.put,kss,i64_w,i32_w]
   rfl
  refine one_ (i:=6) (N:=some 30) (bm_ 9 127) rfl rfl (one_of HT_.out Y0) X0 (fun Kc hK=>?_)
  refine kgo Tryz.func151 #[.slice ad aa.length ae,.slice ag ab.length ah] F0 rfl rfl ?_
  refine(tribunalref02_subD.calls _ _ _ aa _ _ ab x10 _ (K.C 0 (hv hVs rfl)) (K.le 0 (hv hVs rfl)) (K.C 1 (hv hVs rfl)) (K.le 1 (hv hVs rfl)) A11.out).mono ?_
  rintro e W' ⟨v15,rfl,ai,hb⟩
  replace K:=K.addFI 0 (fun _=>False) hb ai
  clear hb ai
  refine⟨_,rfl,hK.out _ _ (HS.out _ _ _ _ K) fun hH=>?_⟩
  clear hK Kc
  refine norm_ (a':=?_) ?_ ?_
  rotate_left
  ·show Act.put _ (some 30) _=_
   simp only[Act.put,kss,i64_w,i32_w]
   rfl
  refine one_ (i:=7) (N:=some 31) (bm_ 9 255) rfl rfl (one_of HT_.out Y0) X0 (fun Kc hK=>?_)
  obtain⟨P19,c20,e21⟩:=K.slice 2 (hv hVs rfl)
  subst e21
  refine kgo Tryz.func92 #[.bool ac,.slice P19 x10.length c20] F0 rfl rfl ?_
  refine(tribunalref02_Make.calls _ ac _ _ _ x10 z12 x13 _ (K.V 2 (hv hVs rfl)) A14.out).mono ?_
  rintro e W' ⟨v16,rfl,aj,hb⟩
  replace K:=K.addI 1 (fun _=>False) hb aj (fun _ h=>h)
  clear hb aj
  refine⟨_,rfl,hK.out _ _ (HS.out _ _ _ _ K) fun hH=>?_⟩
  clear hK Kc
  refine norm_ (a':=?_) ?_ ?_
  rotate_left
  ·show Act.put _ (some 31) _=_
   simp only[Act.put,kss,i64_w,i32_w]
   rfl
  obtain⟨P23,c24,e25⟩:=K.slice 3 (hv hVs rfl)
  subst e25
  rw[hBs.out,hVs.out,hOs.out]at K
  simp only[kls,klv]at K
  clear hBs hVs hOs HS hH
  refine ko2 (i:=8) (bm_ 9 511) 2 (.bool z12) (.slice P23 x13.length c24) K rfl rfl rfl (one_of HT_.out Y0) X0 F0 (fun W K=>⟨K.cell 0 rfl 0 rfl,K.cell 0 rfl 1 rfl,K.cell 1 rfl 0 rfl,K.cell 1 rfl 1 rfl⟩) ?_
  clear K
  intro W26 K
  simp only[kls,klv]at K
  refine done_ (done_of HT_.out Y0) ?_
  clear HT_ HW_
  simp only[Option.some.injEq,Prod.mk.injEq]at h
  obtain⟨rfl,rfl⟩:=h
  go_wp2
  refine bodyPost_ret (results_single rfl (.cell g5 81 #[.bool z12,.slice P23 x13.length c24] (0,0) _ rfl (K.u.heap 2 rfl) Tryz.underlying81 rfl Y0 .nil)) rfl ?_
  exact⟨_,rfl,K.u.hand 3 rfl (fun _ h=>h.elim (fun h=>h.elim) id),K.u.below⟩
 rw[if_neg c_1]at h
 have ar:decide (n7≥0)=false:=decide_eq_false c_1
 go_enter Tryz.func82,Tryz.ntmps82
 go_wp2_with (first|(refine gd 2 rfl ?_;refine kbk 2 #[.bool ac,.slice ad aa.length ae] 81 K.u ?_;clear K;intro g1 W2 K)|(refine gd 3 rfl ?_;refine kbk 3 #[.bool af,.slice ag ab.length ah] 81 K.u ?_;clear K;intro g3 W4 K)|(refine gd 4 rfl ?_;refine kbk 4 #[.bool false,.slice none 0 0] 81 K.u ?_;clear K;intro g5 W6 K;obtain⟨ua0,ub0⟩:=K.cell2 0 rfl;obtain⟨ua1,ub1⟩:=K.cell2 1 rfl)|(refine gd 22 rfl ?_;clear ua0 ub0 ua1 ub1;refine kgl (some 22) rfl rfl Tryz.func90 #[.slice ad aa.length ae,.slice ag ab.length ah] rfl ?_;refine(tribunalref02_cmpD.calls _ _ _ aa _ _ ab n7 _ (K.C 0 rfl) (K.le 0 rfl) (K.C 1 rfl) (K.le 1 rfl) A8.out).mono ?_;rintro e W9 ⟨rfl,hb⟩;refine⟨_,rfl,?_⟩;replace K:=K.u.up hb.below;clear hb))
 replace h:=bindA h
 obtain⟨x10,A11,h⟩:=h
 replace h:=bindA h
 obtain⟨⟨z12,x13⟩,A14,h⟩:=h
 dsimp only at h
 obtain⟨Bs,Vs,Os,hBs,hVs,hOs,K⟩:=K.abs
 have HS:Aside0 (∀l m o W,Kp w (Bs++l) m o W→W.cell? ⟨g3,0,none⟩=some (.bool af)∧W.cell? ⟨g3,1,none⟩=some (.slice ag ab.length ah)∧W.cell? ⟨g1,0,none⟩=some (.bool ac)∧W.cell? ⟨g1,1,none⟩=some (.slice ad aa.length ae)):=⟨fun l m o W K=>by rw[hBs.out]at K;exact⟨K.cell 1 rfl 0 rfl,K.cell 1 rfl 1 rfl,K.cell 0 rfl 0 rfl,K.cell 0 rfl 1 rfl⟩⟩
 refine kpstart (n:=9) (ds:=[]) (S:=fun W=>W.cell? ⟨g3,0,none⟩=some (.bool af)∧W.cell? ⟨g3,1,none⟩=some (.slice ag ab.length ah)∧W.cell? ⟨g1,0,none⟩=some (.bool ac)∧W.cell? ⟨g1,1,none⟩=some (.slice ad aa.length ae)) (bm_ 9 0) Y0 rfl rfl K (HS.out [] _ _) (fun W17 K hH=>?_)
 refine with_tabW tribunalref02_Plus.tab5 tribunalref02_Plus.bits5 (fun HT_ HW_=>?_)
 refine pu_ 0 32 ?_ (bm_ 9 1) rfl rfl (any_of HT_.out Y0) (fun _ _ _ h=>h) F0 ?_ ?_ ?_ ?_
 rotate_left
 ·intro w'
  go_simp
  with_reducible rfl
 rotate_left
 ·simp only[Act.put,kss,i64_w,i32_w]
  rfl
 refine tk_ 1 33 ?_ (bm_ 9 3) rfl rfl (take_ofW HT_.out HW_.out Y0) (fun _ _ _ h=>h) F0 ?_ hH ?_ ?_ ?_
 rotate_left
 ·rintro w' ⟨s0,s1,s2,s3⟩
  go_simp
  with_reducible rfl
 rotate_left
 ·simp only[Act.put,kss,i64_w,i32_w]
  rfl
 refine pu_ 2 34 ?_ (bm_ 9 7) rfl rfl (any_of HT_.out Y0) (fun _ _ _ h=>h) F0 ?_ ?_ ?_ ?_
 rotate_left
 ·intro w'
  go_simp
  with_reducible rfl
 rotate_left
 ·simp only[Act.put,kss,i64_w,i32_w]
  rfl
 refine tk_ 3 35 ?_ (bm_ 9 15) rfl rfl (take_ofW HT_.out HW_.out Y0) (fun _ _ _ h=>h) F0 ?_ hH ?_ ?_ ?_
 rotate_left
 ·rintro w' ⟨s0,s1,s2,s3⟩
  go_simp
  with_reducible rfl
 rotate_left
 ·simp only[Act.put,kss,i64_w,i32_w]
  rfl
 refine pu_ 4 36 ?_ (bm_ 9 31) rfl rfl (any_of HT_.out Y0) (fun _ _ _ h=>h) F0 ?_ ?_ ?_ ?_
 rotate_left
 ·intro w'
  go_simp
  with_reducible rfl
 rotate_left
 ·simp only[Act.put,kss,i64_w,i32_w]
  rfl
 refine tk_ 5 37 ?_ (bm_ 9 63) rfl rfl (take_ofW HT_.out HW_.out Y0) (fun _ _ _ h=>h) F0 ?_ hH ?_ ?_ ?_
 rotate_left
 ·rintro w' ⟨s0,s1,s2,s3⟩
  go_simp
  with_reducible rfl
 rotate_left
 ·simp only[Act.put,kss,i64_w,i32_w]
  rfl
 refine one_ (i:=6) (N:=some 38) (bm_ 9 127) rfl rfl (one_of HT_.out Y0) X0 (fun Kc hK=>?_)
 refine kgo Tryz.func151 #[.slice ag ab.length ah,.slice ad aa.length ae] F0 rfl rfl ?_
 refine(tribunalref02_subD.calls _ _ _ ab _ _ aa x10 _ (K.C 1 (hv hVs rfl)) (K.le 1 (hv hVs rfl)) (K.C 0 (hv hVs rfl)) (K.le 0 (hv hVs rfl)) A11.out).mono ?_
 rintro e W' ⟨v15,rfl,ai,hb⟩
 replace K:=K.addFI 0 (fun _=>False) hb ai
 clear hb ai
 refine⟨_,rfl,hK.out _ _ (HS.out _ _ _ _ K) fun hH=>?_⟩
 clear hK Kc
 refine norm_ (a':=?_) ?_ ?_
 rotate_left
 ·show Act.put _ (some 38) _=_
  simp only[Act.put,kss,i64_w,i32_w]
  rfl
 refine one_ (i:=7) (N:=some 39) (bm_ 9 255) rfl rfl (one_of HT_.out Y0) X0 (fun Kc hK=>?_)
 obtain⟨P19,c20,e21⟩:=K.slice 2 (hv hVs rfl)
 subst e21
 refine kgo Tryz.func92 #[.bool af,.slice P19 x10.length c20] F0 rfl rfl ?_
 refine(tribunalref02_Make.calls _ af _ _ _ x10 z12 x13 _ (K.V 2 (hv hVs rfl)) A14.out).mono ?_
 rintro e W' ⟨v16,rfl,aj,hb⟩
 replace K:=K.addI 1 (fun _=>False) hb aj (fun _ h=>h)
 clear hb aj
 refine⟨_,rfl,hK.out _ _ (HS.out _ _ _ _ K) fun hH=>?_⟩
 clear hK Kc
 refine norm_ (a':=?_) ?_ ?_
 rotate_left
 ·show Act.put _ (some 39) _=_
  simp only[Act.put,kss,i64_w,i32_w]
  rfl
 obtain⟨P23,c24,e25⟩:=K.slice 3 (hv hVs rfl)
 subst e25
 rw[hBs.out,hVs.out,hOs.out]at K
 simp only[kls,klv]at K
 clear hBs hVs hOs HS hH
 refine ko2 (i:=8) (bm_ 9 511) 2 (.bool z12) (.slice P23 x13.length c24) K rfl rfl rfl (one_of HT_.out Y0) X0 F0 (fun W K=>⟨K.cell 1 rfl 0 rfl,K.cell 1 rfl 1 rfl,K.cell 0 rfl 0 rfl,K.cell 0 rfl 1 rfl⟩) ?_
 clear K
 intro W26 K
 simp only[kls,klv]at K
 refine done_ (done_of HT_.out Y0) ?_
 clear HT_ HW_
 simp only[Option.some.injEq,Prod.mk.injEq]at h
 obtain⟨rfl,rfl⟩:=h
 go_wp2
 refine bodyPost_ret (results_single rfl (.cell g5 81 #[.bool z12,.slice P23 x13.length c24] (0,0) _ rfl (K.u.heap 2 rfl) Tryz.underlying81 rfl Y0 .nil)) rfl ?_
 exact⟨_,rfl,K.u.hand 3 rfl (fun _ h=>h.elim (fun h=>h.elim) id),K.u.below⟩
def tribunalref02_Small1.f (k:Nat) (a0:Int):Option (Bool×List Int):=if a0<0 then((tribunalref02_Make.f k true (([IntKind.u16.wrap (IntKind.u64.wrap (-(IntKind.u64.wrap (a0)))),IntKind.u16.wrap ((IntKind.u64.wrap (-(IntKind.u64.wrap (a0))))/65536),IntKind.u16.wrap ((IntKind.u64.wrap (-(IntKind.u64.wrap (a0))))/4294967296),IntKind.u16.wrap ((IntKind.u64.wrap (-(IntKind.u64.wrap (a0))))/281474976710656)]:List Int))).bind fun bt1096=>(some (bt1096.1,bt1096.2))) else((tribunalref02_Make.f k false (([IntKind.u16.wrap (IntKind.u64.wrap (a0)),IntKind.u16.wrap ((IntKind.u64.wrap (a0))/65536),IntKind.u16.wrap ((IntKind.u64.wrap (a0))/4294967296),IntKind.u16.wrap ((IntKind.u64.wrap (a0))/281474976710656)]:List Int))).bind fun bt1103=>(some (bt1103.1,bt1103.2)))
theorem tribunalref02_Small1.calls (k:Nat) (a0:Int) (r1:Bool) (r2:List Int) (w:World) (h:tribunalref02_Small1.f k a0=some (r1,r2)) :
  Calls Tryz.prog 81 #[.int .i64 a0] w fun e w'=>∃v1_:Value,e=.returned (.agg #[.bool r1,v1_])∧Kd.V (Kd.int .u16) 127 w' w.heap.size (fun k_=>(w.heap.size≤k_)) v1_ r2∧Below w.heap.size w w':=by
 have aU:=Tryz.underlying81
 have HB:=Aside0.mk (Below.refl w.heap.size w)
 have H:(if a0<0 then((tribunalref02_Make.f k true (([IntKind.u16.wrap (IntKind.u64.wrap (-(IntKind.u64.wrap (a0)))),IntKind.u16.wrap ((IntKind.u64.wrap (-(IntKind.u64.wrap (a0))))/65536),IntKind.u16.wrap ((IntKind.u64.wrap (-(IntKind.u64.wrap (a0))))/4294967296),IntKind.u16.wrap ((IntKind.u64.wrap (-(IntKind.u64.wrap (a0))))/281474976710656)]:List Int))).bind fun ae=>(some (ae.1,ae.2))) else((tribunalref02_Make.f k false (([IntKind.u16.wrap (IntKind.u64.wrap (a0)),IntKind.u16.wrap ((IntKind.u64.wrap (a0))/65536),IntKind.u16.wrap ((IntKind.u64.wrap (a0))/4294967296),IntKind.u16.wrap ((IntKind.u64.wrap (a0))/281474976710656)]:List Int))).bind fun af=>(some (af.1,af.2))))=some (r1,r2):=h
 clear h
 by_cases c2:a0<0
 ·rw[if_pos c2]at H
  have aE:decide (a0<0)=true:=decide_eq_true c2
  clear c2
  obtain⟨ak,ag⟩:∃y_:List Int,y_=(([IntKind.u16.wrap (IntKind.u64.wrap (-(IntKind.u64.wrap (a0)))),IntKind.u16.wrap ((IntKind.u64.wrap (-(IntKind.u64.wrap (a0))))/65536),IntKind.u16.wrap ((IntKind.u64.wrap (-(IntKind.u64.wrap (a0))))/4294967296),IntKind.u16.wrap ((IntKind.u64.wrap (-(IntKind.u64.wrap (a0))))/281474976710656)]:List Int)):=⟨_,rfl⟩
  replace H:((tribunalref02_Make.f k true ak).bind fun ae=>(some (ae.1,ae.2)))=some (r1,r2):=by first|(rw[ag];with_reducible exact H)|(have H2_:=(Option.bind_some _ _).symm.trans H;rw[ag];with_reducible exact H2_)|(have H2_:=(Option.bind_some _ _).symm.trans H;with_reducible exact H2_)|with_reducible exact H|(rw[ag];exact H)|exact H
  have aq:=Aside0.mk ag
  clear ag
  replace H:=Option.bind_eq_some_iff.mp H
  obtain⟨⟨ai,al⟩,A30,H⟩:=H
  replace H:(some (ai,al))=some (r1,r2):=H
  have A3:=Aside0.mk A30
  clear A30
  simp only[Option.some.injEq,Prod.mk.injEq]at H
  obtain⟨rfl,rfl⟩:=H
  go_enter Tryz.func81,Tryz.ntmps81
  go_wp2_with (first|((with_reducible refine gate_dst (N:=2) rfl ?_);refine kbe 2 #[.bool false,.slice none 0 0] 81 ?_;intro ab hg w4 hbox hb;have aa:=Aside0.mk (hbox);have aw:=kbz hg HB;have ao:=kbz hg HB;replace HB:=kbs HB hb;clear hb hbox hg)|((with_reducible refine gate_dst (N:=23) rfl ?_);refine Kd.R_lit (Kd.int .u16) _ 127 ?hg (N:=23) ?hd (xs:=([IntKind.u16.wrap (IntKind.u64.wrap (-(IntKind.u64.wrap (a0)))),IntKind.u16.wrap ((IntKind.u64.wrap (-(IntKind.u64.wrap (a0))))/65536),IntKind.u16.wrap ((IntKind.u64.wrap (-(IntKind.u64.wrap (a0))))/4294967296),IntKind.u16.wrap ((IntKind.u64.wrap (-(IntKind.u64.wrap (a0))))/281474976710656)]:List Int)) (inner:=[.int .u16 (IntKind.u16.wrap (IntKind.u64.wrap (-(IntKind.u64.wrap (a0))))),.int .u16 (IntKind.u16.wrap ((IntKind.u64.wrap (-(IntKind.u64.wrap (a0))))/65536)),.int .u16 (IntKind.u16.wrap ((IntKind.u64.wrap (-(IntKind.u64.wrap (a0))))/4294967296)),.int .u16 (IntKind.u16.wrap ((IntKind.u64.wrap (-(IntKind.u64.wrap (a0))))/281474976710656))]) (ok:=fun _=>True) (okp:=fun _=>True) ?hr ?hp (fun _ hk=>hk) trivial (Below.refl _ _) (Nat.le_refl _) Z1 ?_;(case hd=>rfl);(case hg=>rfl);(case hr=>first|(go_simp;done)|(go_simp;rfl));(case hp=>exact(Reps.one (show Kd.M (Kd.int .u16) _ _ _ (IntKind.u16.wrap (IntKind.u64.wrap (-(IntKind.u64.wrap (a0))))) [.int .u16 (IntKind.u16.wrap (IntKind.u64.wrap (-(IntKind.u64.wrap (a0)))))] from rfl) (Reps.one (show Kd.M (Kd.int .u16) _ _ _ (IntKind.u16.wrap ((IntKind.u64.wrap (-(IntKind.u64.wrap (a0))))/65536)) [.int .u16 (IntKind.u16.wrap ((IntKind.u64.wrap (-(IntKind.u64.wrap (a0))))/65536))] from rfl) (Reps.one (show Kd.M (Kd.int .u16) _ _ _ (IntKind.u16.wrap ((IntKind.u64.wrap (-(IntKind.u64.wrap (a0))))/4294967296)) [.int .u16 (IntKind.u16.wrap ((IntKind.u64.wrap (-(IntKind.u64.wrap (a0))))/4294967296))] from rfl) (Reps.one (show Kd.M (Kd.int .u16) _ _ _ (IntKind.u16.wrap ((IntKind.u64.wrap (-(IntKind.u64.wrap (a0))))/281474976710656)) [.int .u16 (IntKind.u16.wrap ((IntKind.u64.wrap (-(IntKind.u64.wrap (a0))))/281474976710656))] from rfl) (Reps.none _ _))))));intro aQ w5 ho6 hb hg_ hnew_;clear hg_ hnew_;(first|rw[←aq.out]at ho6|(simp only[Int.reduceToNat]at ho6;rw[←aq.out]at ho6));have ac:=Aside0.mk (Kd.R_lower (Kd.R_newM (M:=fun k_=>(w.heap.size≤k_)) ho6 (below_size (khu HB.out)) (fun k_ h_=>h_)) (below_size (khu HB.out)));replace aa:=kbb aa hb;replace HB:=kbs HB hb;clear hb ho6;obtain⟨Ao7,co7,eo7⟩:=Kd.R_slice ac.out;subst eo7)|((with_reducible refine gate_callee (f:=92) rfl ?_);refine kgl (some 24) rfl rfl Tryz.func92 #[.bool true,.slice Ao7 ak.length co7] rfl ?_;(with_reducible refine(tribunalref02_Make.calls k true (fun k_=>some k_=(.slice Ao7 ak.length co7:Value).ownBlock) _ _ ak ai al _ ?side1 A3.out).mono ?_);(case side1=>exact Kd.R_V (Kd.R_tight rfl (Kd.R_types (ac.out) aa.out X0)));rintro e w8 ⟨aR,rfl,ho0,hb⟩;refine⟨_,rfl,?_⟩;have ar:=Aside0.mk (Kd.V_lower (Kd.V_mono (ok':=fun k_=>(w.heap.size≤k_)∧k_≠ab) ho0 (fun k_ hk_=>⟨Or.elim hk_ (fun hs_=>((Kd.R_types (ac.out) aa.out X0).1 k_ hs_.symm).1.1) (fun hn_=>(Nat.le_trans (below_size (khu HB.out)) hn_)),Or.elim hk_ (fun hs_=>((Kd.R_types (ac.out) aa.out X0).1 k_ hs_.symm).2) (kfb aa)⟩)) (below_size (khu HB.out)));replace ac:=krb ac hb;replace aa:=kbb aa hb;replace HB:=kbs HB hb;(try clear hb);(try clear hb2);(try clear hk);(try clear hi);(try clear ho0);have aM:w8.cell? ⟨ab,0,none⟩=some (.bool false):=(blk_cell aa.out 0).trans rfl;have aN:w8.cell? ⟨ab,1,none⟩=some (.slice none 0 0):=(blk_cell aa.out 1).trans rfl;have aO:=blk_frozen aa.out 0;have aP:=blk_frozen aa.out 1;obtain⟨ax,ay,aF⟩:=Kd.V_slice ar.out;subst aF))
  refine bodyPost_ret (results_cell_row rfl _ _ ab 81 #[.bool ai,.slice ax al.length ay] (0,0) _ rfl (kpu #[.bool ai,.slice none 0 0] 1 (kpu #[.bool false,.slice none 0 0] 0 (kbu aa.out))) Tryz.underlying81 rfl Y0) rfl ?_
  exact⟨_,Y2,by(with_reducible repeat (first|apply Kd.V_alloc|apply Kd.V_drewN|apply Kd.V_drew));exact Kd.V_mono (Kd.V_far (p:=⟨ab,1,none⟩) (Kd.V_far (p:=⟨ab,0,none⟩) (Kd.V_mono ar.out (fun k_ hk=>(⟨hk,hk.2⟩:_∧k_≠ab))) (fun _ hk=>hk.2) (.bool ai)) (fun _ hk=>hk.2) (.slice ax al.length ay)) (fun _ hk=>hk.1.1),by repeat (first|(with_reducible first|exact HB.out|apply below_alloc|apply pw_below_drewN|apply below_drew1|refine below_set ?_ ao.out)|exact HB.out)⟩
 rw[if_neg c2]at H
 have aE:decide (a0<0)=false:=decide_eq_false c2
 clear c2
 obtain⟨am,ah⟩:∃y_:List Int,y_=(([IntKind.u16.wrap (IntKind.u64.wrap (a0)),IntKind.u16.wrap ((IntKind.u64.wrap (a0))/65536),IntKind.u16.wrap ((IntKind.u64.wrap (a0))/4294967296),IntKind.u16.wrap ((IntKind.u64.wrap (a0))/281474976710656)]:List Int)):=⟨_,rfl⟩
 replace H:((tribunalref02_Make.f k false am).bind fun af=>(some (af.1,af.2)))=some (r1,r2):=by first|(rw[ah];with_reducible exact H)|(have H2_:=(Option.bind_some _ _).symm.trans H;rw[ah];with_reducible exact H2_)|(have H2_:=(Option.bind_some _ _).symm.trans H;with_reducible exact H2_)|with_reducible exact H|(rw[ah];exact H)|exact H
 have au:=Aside0.mk ah
 clear ah
 replace H:=Option.bind_eq_some_iff.mp H
 obtain⟨⟨aj,an⟩,az,H⟩:=H
 replace H:(some (aj,an))=some (r1,r2):=H
 have A11:=Aside0.mk az
 clear az
 simp only[Option.some.injEq,Prod.mk.injEq]at H
 obtain⟨rfl,rfl⟩:=H
 go_enter Tryz.func81,Tryz.ntmps81
 go_wp2_with (first|((with_reducible refine gate_dst (N:=2) rfl ?_);refine kbe 2 #[.bool false,.slice none 0 0] 81 ?_;intro ab hg w12 hbox hb;have aa:=Aside0.mk (hbox);have aw:=kbz hg HB;have ao:=kbz hg HB;replace HB:=kbs HB hb;clear hb hbox hg)|((with_reducible refine gate_dst (N:=23) rfl ?_);refine Kd.R_lit (Kd.int .u16) _ 127 ?hg (N:=23) ?hd (xs:=([IntKind.u16.wrap (IntKind.u64.wrap (a0)),IntKind.u16.wrap ((IntKind.u64.wrap (a0))/65536),IntKind.u16.wrap ((IntKind.u64.wrap (a0))/4294967296),IntKind.u16.wrap ((IntKind.u64.wrap (a0))/281474976710656)]:List Int)) (inner:=[.int .u16 (IntKind.u16.wrap (IntKind.u64.wrap (a0))),.int .u16 (IntKind.u16.wrap ((IntKind.u64.wrap (a0))/65536)),.int .u16 (IntKind.u16.wrap ((IntKind.u64.wrap (a0))/4294967296)),.int .u16 (IntKind.u16.wrap ((IntKind.u64.wrap (a0))/281474976710656))]) (ok:=fun _=>True) (okp:=fun _=>True) ?hr ?hp (fun _ hk=>hk) trivial (Below.refl _ _) (Nat.le_refl _) Z1 ?_;(case hd=>rfl);(case hg=>rfl);(case hr=>first|(go_simp;done)|(go_simp;rfl));(case hp=>exact(Reps.one (show Kd.M (Kd.int .u16) _ _ _ (IntKind.u16.wrap (IntKind.u64.wrap (a0))) [.int .u16 (IntKind.u16.wrap (IntKind.u64.wrap (a0)))] from rfl) (Reps.one (show Kd.M (Kd.int .u16) _ _ _ (IntKind.u16.wrap ((IntKind.u64.wrap (a0))/65536)) [.int .u16 (IntKind.u16.wrap ((IntKind.u64.wrap (a0))/65536))] from rfl) (Reps.one (show Kd.M (Kd.int .u16) _ _ _ (IntKind.u16.wrap ((IntKind.u64.wrap (a0))/4294967296)) [.int .u16 (IntKind.u16.wrap ((IntKind.u64.wrap (a0))/4294967296))] from rfl) (Reps.one (show Kd.M (Kd.int .u16) _ _ _ (IntKind.u16.wrap ((IntKind.u64.wrap (a0))/281474976710656)) [.int .u16 (IntKind.u16.wrap ((IntKind.u64.wrap (a0))/281474976710656))] from rfl) (Reps.none _ _))))));intro aS w13 ap hb hg_ hnew_;clear hg_ hnew_;(first|rw[←au.out]at ap|(simp only[Int.reduceToNat]at ap;rw[←au.out]at ap));have ad:=Aside0.mk (Kd.R_lower (Kd.R_newM (M:=fun k_=>(w.heap.size≤k_)) ap (below_size (khu HB.out)) (fun k_ h_=>h_)) (below_size (khu HB.out)));replace aa:=kbb aa hb;replace HB:=kbs HB hb;clear hb ap;obtain⟨aA,aB,aG⟩:=Kd.R_slice ad.out;subst aG)|((with_reducible refine gate_callee (f:=92) rfl ?_);refine kgl (some 24) rfl rfl Tryz.func92 #[.bool false,.slice aA am.length aB] rfl ?_;(with_reducible refine(tribunalref02_Make.calls k false (fun k_=>some k_=(.slice aA am.length aB:Value).ownBlock) _ _ am aj an _ ?side1 A11.out).mono ?_);(case side1=>exact Kd.R_V (Kd.R_tight rfl (Kd.R_types (ad.out) aa.out X0)));rintro e w16 ⟨aT,rfl,ho0,hb⟩;refine⟨_,rfl,?_⟩;have av:=Aside0.mk (Kd.V_lower (Kd.V_mono (ok':=fun k_=>(w.heap.size≤k_)∧k_≠ab) ho0 (fun k_ hk_=>⟨Or.elim hk_ (fun hs_=>((Kd.R_types (ad.out) aa.out X0).1 k_ hs_.symm).1.1) (fun hn_=>(Nat.le_trans (below_size (khu HB.out)) hn_)),Or.elim hk_ (fun hs_=>((Kd.R_types (ad.out) aa.out X0).1 k_ hs_.symm).2) (kfb aa)⟩)) (below_size (khu HB.out)));replace ad:=krb ad hb;replace aa:=kbb aa hb;replace HB:=kbs HB hb;(try clear hb);(try clear hb2);(try clear hk);(try clear hi);(try clear ho0);have aI:w16.cell? ⟨ab,0,none⟩=some (.bool false):=(blk_cell aa.out 0).trans rfl;have aJ:w16.cell? ⟨ab,1,none⟩=some (.slice none 0 0):=(blk_cell aa.out 1).trans rfl;have aK:=blk_frozen aa.out 0;have aL:=blk_frozen aa.out 1;obtain⟨aC,aD,aH⟩:=Kd.V_slice av.out;subst aH))
 refine bodyPost_ret (results_cell_row rfl _ _ ab 81 #[.bool aj,.slice aC an.length aD] (0,0) _ rfl (kpu #[.bool aj,.slice none 0 0] 1 (kpu #[.bool false,.slice none 0 0] 0 (kbu aa.out))) Tryz.underlying81 rfl Y0) rfl ?_
 exact⟨_,Y2,by(with_reducible repeat (first|apply Kd.V_alloc|apply Kd.V_drewN|apply Kd.V_drew));exact Kd.V_mono (Kd.V_far (p:=⟨ab,1,none⟩) (Kd.V_far (p:=⟨ab,0,none⟩) (Kd.V_mono av.out (fun k_ hk=>(⟨hk,hk.2⟩:_∧k_≠ab))) (fun _ hk=>hk.2) (.bool aj)) (fun _ hk=>hk.2) (.slice aC an.length aD)) (fun _ hk=>hk.1.1),by repeat (first|(with_reducible first|exact HB.out|apply below_alloc|apply pw_below_drewN|apply below_drew1|refine below_set ?_ ao.out)|exact HB.out)⟩
def tribunalref02_timesD.l0:Nat→List Int→Int→List Int→Int→Int→Option (List Int)
 | 0,_,_,_,_,_=>none
 | k+1,x0,x1,x5,x6,x7=>if x7<(x0.length:Int) then(if 0≤x7 then(if x5.length<70368744177664 then(tribunalref02_timesD.l0 k x0 x1 (x5++[IntKind.u16.wrap ((x6+(((rd x0 x7)%4294967296)*x1))%4294967296)]) (((x6+(((rd x0 x7)%4294967296)*x1))%4294967296)/65536) (wrap64 (x7+1))) else(none)) else(none)) else(if x5.length<70368744177664 then((tribunalref02_trim.f k (x5++[IntKind.u16.wrap (x6)])).bind fun t1114=>(some t1114)) else(none))
def tribunalref02_timesD.f (k:Nat) (l0:List Int) (a1:Int):Option (List Int):=tribunalref02_timesD.l0 k l0 a1 ([]:List Int) 0 0
theorem tribunalref02_timesD.calls (k:Nat) (A0:Option Addr) (c0:Nat) (l0:List Int) (a1:Int) (r:List Int) (w:World) (hr0:Kd.C (Kd.int .u16) w A0 l0.length l0) (hc0:l0.length≤c0) (h:tribunalref02_timesD.f k l0 a1=some r) :
  Calls Tryz.prog 180 #[.slice A0 l0.length c0,.int .u32 a1] w fun e w'=>∃v0_:Value,e=.returned (v0_)∧Kd.V (Kd.int .u16) 127 w' w.heap.size (fun k_=>(w.heap.size≤k_)) v0_ r∧Below w.heap.size w w':=by
 have HR0:=Aside0.mk hr0
 have HC0:=Aside0.mk hc0
 clear hr0 hc0
 have HB:=Aside0.mk (Below.refl w.heap.size w)
 have H:(tribunalref02_timesD.l0 k l0 a1 ([]:List Int) 0 0)=some r:=h
 clear h
 have H':=Aside0.mk H
 clear H
 go_enter Tryz.func180,Tryz.ntmps180
 go_wp2
 go_loopg [5,6,7] k (fun kq v5 v6 v7 w'=>∃(ac:List Int) (ab:Int) (aa:Int),v6=.int .u32 ab∧v7=.int .i64 aa∧Aside0 (tribunalref02_timesD.l0 kq l0 a1 ac ab aa=some r)∧Aside0 (kq≤k)∧Aside0 (Kd.R (Kd.int .u16) 127 w' w.heap.size (fun k_=>(w.heap.size≤k_)) v5 ac)∧Aside0 (Below w.heap.size w w'))
 case atStart=>exact⟨(([]:List Int)),(0),(0),J0,J0,H',⟨Nat.le_refl _⟩,⟨F1⟩,⟨J1⟩⟩
 case round=>
  clear H'
  try clear c1
  try clear p2
  obtain⟨ac,ab,aa,rfl,rfl,HA,HK1,aj,HB⟩:=hrel
  cases gk with
  | zero=>exact absurd HA.out (by simp[tribunalref02_timesD.l0])
  | succ k1=>
   have H:=HA.out
   clear HA
   simp only[tribunalref02_timesD.l0]at H
   by_cases c3:aa<(l0.length:Int)
   ·rw[if_pos c3]at H
    have aw:decide (aa<(l0.length:Int))=true:=decide_eq_true c3
    clear c3
    by_cases c4:0≤aa
    ·rw[if_pos c4]at H
     have aG:decide (0≤aa)=true:=decide_eq_true c4
     clear c4
     by_cases c5:ac.length<70368744177664
     ·rw[if_pos c5]at H
      have ax:=Aside0.mk c5
      clear c5
      obtain⟨am,ad⟩:∃y_:List Int,y_=(ac++[IntKind.u16.wrap ((ab+(((rd l0 aa)%4294967296)*a1))%4294967296)]):=⟨_,rfl⟩
      replace H:(tribunalref02_timesD.l0 k1 l0 a1 am (((ab+(((rd l0 aa)%4294967296)*a1))%4294967296)/65536) (wrap64 (aa+1)))=some r:=by first|(rw[ad];with_reducible exact H)|(have H2_:=(Option.bind_some _ _).symm.trans H;rw[ad];with_reducible exact H2_)|(have H2_:=(Option.bind_some _ _).symm.trans H;with_reducible exact H2_)|with_reducible exact H|(rw[ad];exact H)|exact H
      have an:=Aside0.mk ad
      clear ad
      have H':=Aside0.mk H
      clear H
      have ak:0≤(aa:Int):=of_decide_eq_true ‹_›
      have al:aa<(l0.length:Int):=of_decide_eq_true ‹_›
      obtain⟨aA,av,ag⟩:=Kd.at_int HR0.out aa ak al
      cases av
      replace ag:=(HB.out.cell (World.block_lt_of_cell? w _ ag)).trans ag
      replace ak:=eq_true ak
      replace al:=eq_true al
      go_wp2_with (first|((with_reducible refine gate_builtin (b:=.append) (xs:=#[.tmp 23,.tmp 26]) rfl ?_);at_builtin;refine Kd.R_append (Kd.int .u16) (w0:=w) w.heap.size rfl (.tmp 23) (.tmp 26) 79 127 (.int .u16 0) 2 rfl Tryz.underlying79 info127 rfl X0 Z0 u5 ac (IntKind.u16.wrap ((ab+(((rd l0 aa)%4294967296)*a1))%4294967296)) [.int .u16 (IntKind.u16.wrap ((ab+(((rd l0 aa)%4294967296)*a1))%4294967296))] (fun k_=>(w.heap.size≤k_)) (fun _=>False) rfl rfl ?aP (fun _ hk=>hk.elim) ?aF ?aO ?aB ?aS ?aL ?_;(case aP=>exact rfl);(case aB=>exact(khu HB.out));(case aF=>exact(fun k_ hk=>(Nat.le_trans (below_size (khu HB.out)) hk)));(case aO=>exact(kru aj.out));(case aS=>exact(below_size (khu HB.out)));(case aL=>have:=ax.out;omega);intro aC w6 ho hb hg hat;rw[←an.out]at ho;replace HB:=Aside0.mk (hb);have ao:=Aside0.mk (ho);clear aj;clear ho hb hg hat))
      go_roundg k1
      case measure=>have:=HK1.out;omega
      case rel=>exact⟨(am),(((ab+(((rd l0 aa)%4294967296)*a1))%4294967296)/65536),(wrap64 (aa+1)),J0,J0,H',⟨X2⟩,⟨by(with_reducible repeat (first|apply Kd.R_alloc|apply Kd.R_drewN|apply Kd.R_drew));exact ao.out⟩,⟨J1⟩⟩
     rw[if_neg c5]at H
     exact absurd H Z1
    rw[if_neg c4]at H
    exact absurd H Z1
   rw[if_neg c3]at H
   have aw:decide (aa<(l0.length:Int))=false:=decide_eq_false c3
   clear c3
   by_cases c7:ac.length<70368744177664
   ·rw[if_pos c7]at H
    have ay:=Aside0.mk c7
    clear c7
    obtain⟨ah,ae⟩:∃y_:List Int,y_=(ac++[IntKind.u16.wrap (ab)]):=⟨_,rfl⟩
    replace H:((tribunalref02_trim.f k1 ah).bind fun ai=>(some ai))=some r:=by first|(rw[ae];with_reducible exact H)|(have H2_:=(Option.bind_some _ _).symm.trans H;rw[ae];with_reducible exact H2_)|(have H2_:=(Option.bind_some _ _).symm.trans H;with_reducible exact H2_)|with_reducible exact H|(rw[ae];exact H)|exact H
    have ap:=Aside0.mk ae
    clear ae
    replace H:=Option.bind_eq_some_iff.mp H
    obtain⟨ai,A80,H⟩:=H
    replace H:(some ai)=some r:=H
    have A8:=Aside0.mk A80
    clear A80
    obtain rfl:=Option.some.inj H
    go_wp2_with (first|((with_reducible refine gate_builtin (b:=.append) (xs:=#[.tmp 30,.tmp 33]) rfl ?_);at_builtin;refine Kd.R_append (Kd.int .u16) (w0:=w) w.heap.size rfl (.tmp 30) (.tmp 33) 79 127 (.int .u16 0) 2 rfl Tryz.underlying79 info127 rfl X0 Z0 u5 ac (IntKind.u16.wrap (ab)) [.int .u16 (IntKind.u16.wrap (ab))] (fun k_=>(w.heap.size≤k_)) (fun _=>False) rfl rfl ?aP (fun _ hk=>hk.elim) ?aF ?aO ?aB ?aS ?aL ?_;(case aP=>exact rfl);(case aB=>exact(khu HB.out));(case aF=>exact(fun k_ hk=>(Nat.le_trans (below_size (khu HB.out)) hk)));(case aO=>exact(kru aj.out));(case aS=>exact(below_size (khu HB.out)));(case aL=>have:=ay.out;omega);intro aD w9 ho hb hg hat;rw[←ap.out]at ho;replace HB:=Aside0.mk (hb);have af:=Aside0.mk (ho);clear aj;clear ho hb hg hat;obtain⟨aq,ar,az⟩:=Kd.R_slice af.out;subst az)|((with_reducible refine gate_callee (f:=155) rfl ?_);refine kgl (some 35) rfl rfl Tryz.func155 #[.slice aq ah.length ar] rfl ?_;(with_reducible refine(tribunalref02_trim.calls k1 (fun k_=>some k_=(.slice aq ah.length ar:Value).ownBlock) _ _ ah ai _ ?side1 A8.out).mono ?_);(case side1=>exact Kd.R_V (Kd.R_tight rfl (af.out)));rintro e w11 ⟨aE,rfl,ho0,hb⟩;refine⟨_,rfl,?_⟩;have au:=Aside0.mk (Kd.V_lower (Kd.V_mono (ok':=fun k_=>(w.heap.size≤k_)) ho0 (fun k_ hk_=>Or.elim hk_ (fun hs_=>((af.out).1 k_ hs_.symm)) (fun hn_=>(Nat.le_trans (below_size (khu HB.out)) hn_)))) (below_size (khu HB.out)));replace af:=krb af hb;replace HB:=kbs HB hb;(try clear hb);(try clear hb2);(try clear hk);(try clear hi);(try clear ho0)))
    go_ret
    exact⟨_,Y2,by(with_reducible repeat (first|apply Kd.V_alloc|apply Kd.V_drewN|apply Kd.V_drew));exact au.out,J1⟩
   rw[if_neg c7]at H
   exact absurd H Z1
def tribunalref02_digit.l0:Nat→List Int→List Int→Int→Int→Option (Int×List Int)
 | 0,_,_,_,_=>none
 | k+1,x0,x1,x6,x7=>if x6<x7 then((tribunalref02_timesD.f k x1 ((((x6+x7)+1)%4294967296)/2)).bind fun t1123=>((tribunalref02_cmpD.f k t1123 x0).bind fun t1126=>(if t1126≤0 then(tribunalref02_digit.l0 k x0 x1 ((((x6+x7)+1)%4294967296)/2) x7) else(tribunalref02_digit.l0 k x0 x1 x6 ((((((x6+x7)+1)%4294967296)/2)-1)%4294967296))))) else((tribunalref02_timesD.f k x1 x6).bind fun t1117=>((tribunalref02_subD.f k x0 t1117).bind fun t1120=>(some (IntKind.u16.wrap (x6),t1120))))
def tribunalref02_digit.f (k:Nat) (l0:List Int) (l1:List Int):Option (Int×List Int):=tribunalref02_digit.l0 k l0 l1 0 65535
theorem tribunalref02_digit.calls (k:Nat) (A0:Option Addr) (c0:Nat) (l0:List Int) (A1:Option Addr) (c1:Nat) (l1:List Int) (r1:Int) (r2:List Int) (w:World) (hr0:Kd.C (Kd.int .u16) w A0 l0.length l0) (hc0:l0.length≤c0) (hr1:Kd.C (Kd.int .u16) w A1 l1.length l1) (hc1:l1.length≤c1) (h:tribunalref02_digit.f k l0 l1=some (r1,r2)) :
  Calls Tryz.prog 167 #[.slice A0 l0.length c0,.slice A1 l1.length c1] w fun e w'=>∃v1_:Value,e=.returned (.tuple #[.int .u16 r1,v1_])∧Kd.V (Kd.int .u16) 127 w' w.heap.size (fun k_=>(w.heap.size≤k_)) v1_ r2∧Below w.heap.size w w':=by
 have HR0:=Aside0.mk hr0
 have HC0:=Aside0.mk hc0
 clear hr0 hc0
 have HR1:=Aside0.mk hr1
 have HC1:=Aside0.mk hc1
 clear hr1 hc1
 have HB:=Aside0.mk (Below.refl w.heap.size w)
 have H:(tribunalref02_digit.l0 k l0 l1 0 65535)=some (r1,r2):=h
 clear h
 have H':=Aside0.mk H
 clear H
 go_enter Tryz.func167,Tryz.ntmps167
 go_wp2
 go_loopg [6,7] k (fun kq v6 v7 w'=>∃(aa:Int) (ab:Int),v6=.int .u32 aa∧v7=.int .u32 ab∧Aside0 (tribunalref02_digit.l0 kq l0 l1 aa ab=some (r1,r2))∧Aside0 (kq≤k)∧Aside0 (Below w.heap.size w w'))
 case atStart=>exact⟨(0),(65535),J0,J0,H',⟨Nat.le_refl _⟩,⟨J1⟩⟩
 case round=>
  clear H'
  try clear c1
  try clear p2
  obtain⟨aa,ab,rfl,rfl,HA,HK1,HB⟩:=hrel
  cases gk with
  | zero=>exact absurd HA.out (by simp[tribunalref02_digit.l0])
  | succ k1=>
   have H:=HA.out
   clear HA
   simp only[tribunalref02_digit.l0]at H
   by_cases c3:aa<ab
   ·rw[if_pos c3]at H
    have am:decide (aa<ab)=true:=decide_eq_true c3
    clear c3
    replace H:=Option.bind_eq_some_iff.mp H
    obtain⟨ae,A40,H⟩:=H
    replace H:((tribunalref02_cmpD.f k1 ae l0).bind fun ad=>(if ad≤0 then(tribunalref02_digit.l0 k1 l0 l1 ((((aa+ab)+1)%4294967296)/2) ab) else(tribunalref02_digit.l0 k1 l0 l1 aa ((((((aa+ab)+1)%4294967296)/2)-1)%4294967296))))=some (r1,r2):=H
    have A4:=Aside0.mk A40
    clear A40
    replace H:=Option.bind_eq_some_iff.mp H
    obtain⟨ad,A50,H⟩:=H
    replace H:(if ad≤0 then(tribunalref02_digit.l0 k1 l0 l1 ((((aa+ab)+1)%4294967296)/2) ab) else(tribunalref02_digit.l0 k1 l0 l1 aa ((((((aa+ab)+1)%4294967296)/2)-1)%4294967296)))=some (r1,r2):=H
    have A5:=Aside0.mk A50
    clear A50
    by_cases c6:ad≤0
    ·rw[if_pos c6]at H
     have an:decide (ad≤0)=true:=decide_eq_true c6
     clear c6
     have H':=Aside0.mk H
     clear H
     go_wp2_with (first|((with_reducible refine gate_callee (f:=180) rfl ?_);refine kgl (some 19) rfl rfl Tryz.func180 #[.slice A1 l1.length c1,.int .u32 ((((aa+ab)+1)%4294967296)/2)] rfl ?_;(with_reducible refine(tribunalref02_timesD.calls k1 _ _ l1 ((((aa+ab)+1)%4294967296)/2) ae _ ?side1 ?side2 A4.out).mono ?_);(case side1=>repeat (first|exact(Kd.C_below HR1.out HB.out)|(with_reducible refine Kd.C_alloc ?_ _)|(with_reducible refine Kd.C_drewN ?_ _)|(with_reducible refine Kd.C_drew ?_)));(case side2=>exact HC1.out);rintro e w7 ⟨al,rfl,ho0,hb⟩;refine⟨_,rfl,?_⟩;have ac:=Aside0.mk (Kd.V_lower (Kd.V_mono (ok':=fun k_=>(w.heap.size≤k_)) ho0 (fun k_ hk_=>(Nat.le_trans (below_size (khu HB.out)) hk_))) (below_size (khu HB.out)));replace HB:=kbs HB hb;(try clear hb);(try clear hb2);(try clear hk);(try clear hi);(try clear ho0);obtain⟨Ao8,co8,eo8⟩:=Kd.V_slice ac.out;subst eo8)|((with_reducible refine gate_callee (f:=90) rfl ?_);refine kgl (some 21) rfl rfl Tryz.func90 #[.slice Ao8 ae.length co8,.slice A0 l0.length c0] rfl ?_;(with_reducible refine(tribunalref02_cmpD.calls k1 _ _ ae _ _ l0 ad _ ?side1 ?side2 ?side3 ?side4 A5.out).mono ?_);(case side1=>repeat (first|exact(Kd.V_reads' ac.out).2.2|(with_reducible refine Kd.C_alloc ?_ _)|(with_reducible refine Kd.C_drewN ?_ _)|(with_reducible refine Kd.C_drew ?_)));(case side2=>exact(Kd.V_reads' ac.out).2.1);(case side3=>repeat (first|exact(Kd.C_below HR0.out HB.out)|(with_reducible refine Kd.C_alloc ?_ _)|(with_reducible refine Kd.C_drewN ?_ _)|(with_reducible refine Kd.C_drew ?_)));(case side4=>exact HC0.out);rintro e w' ⟨rfl,⟨nd,rfl⟩⟩;refine⟨_,rfl,?_⟩))
     go_roundg k1
     case measure=>have:=HK1.out;omega
     case rel=>exact⟨((((aa+ab)+1)%4294967296)/2),(ab),J0,J0,H',⟨X2⟩,⟨J1⟩⟩
    rw[if_neg c6]at H
    have an:decide (ad≤0)=false:=decide_eq_false c6
    clear c6
    have H':=Aside0.mk H
    clear H
    go_wp2_with (first|((with_reducible refine gate_callee (f:=180) rfl ?_);refine kgl (some 19) rfl rfl Tryz.func180 #[.slice A1 l1.length c1,.int .u32 ((((aa+ab)+1)%4294967296)/2)] rfl ?_;(with_reducible refine(tribunalref02_timesD.calls k1 _ _ l1 ((((aa+ab)+1)%4294967296)/2) ae _ ?side1 ?side2 A4.out).mono ?_);(case side1=>repeat (first|exact(Kd.C_below HR1.out HB.out)|(with_reducible refine Kd.C_alloc ?_ _)|(with_reducible refine Kd.C_drewN ?_ _)|(with_reducible refine Kd.C_drew ?_)));(case side2=>exact HC1.out);rintro e w9 ⟨al,rfl,ho0,hb⟩;refine⟨_,rfl,?_⟩;have ac:=Aside0.mk (Kd.V_lower (Kd.V_mono (ok':=fun k_=>(w.heap.size≤k_)) ho0 (fun k_ hk_=>(Nat.le_trans (below_size (khu HB.out)) hk_))) (below_size (khu HB.out)));replace HB:=kbs HB hb;(try clear hb);(try clear hb2);(try clear hk);(try clear hi);(try clear ho0);obtain⟨ao,ap,aq⟩:=Kd.V_slice ac.out;subst aq)|((with_reducible refine gate_callee (f:=90) rfl ?_);refine kgl (some 21) rfl rfl Tryz.func90 #[.slice ao ae.length ap,.slice A0 l0.length c0] rfl ?_;(with_reducible refine(tribunalref02_cmpD.calls k1 _ _ ae _ _ l0 ad _ ?side1 ?side2 ?side3 ?side4 A5.out).mono ?_);(case side1=>repeat (first|exact(Kd.V_reads' ac.out).2.2|(with_reducible refine Kd.C_alloc ?_ _)|(with_reducible refine Kd.C_drewN ?_ _)|(with_reducible refine Kd.C_drew ?_)));(case side2=>exact(Kd.V_reads' ac.out).2.1);(case side3=>repeat (first|exact(Kd.C_below HR0.out HB.out)|(with_reducible refine Kd.C_alloc ?_ _)|(with_reducible refine Kd.C_drewN ?_ _)|(with_reducible refine Kd.C_drew ?_)));(case side4=>exact HC0.out);rintro e w' ⟨rfl,⟨nd,rfl⟩⟩;refine⟨_,rfl,?_⟩))
    go_roundg k1
    case measure=>have:=HK1.out;omega
    case rel=>exact⟨(aa),((((((aa+ab)+1)%4294967296)/2)-1)%4294967296),J0,J0,H',⟨X2⟩,⟨J1⟩⟩
   rw[if_neg c3]at H
   have am:decide (aa<ab)=false:=decide_eq_false c3
   clear c3
   replace H:=Option.bind_eq_some_iff.mp H
   obtain⟨ag,ai,H⟩:=H
   replace H:((tribunalref02_subD.f k1 l0 ag).bind fun ah=>(some (IntKind.u16.wrap (aa),ah)))=some (r1,r2):=H
   have A11:=Aside0.mk ai
   clear ai
   replace H:=Option.bind_eq_some_iff.mp H
   obtain⟨ah,aj,H⟩:=H
   replace H:(some (IntKind.u16.wrap (aa),ah))=some (r1,r2):=H
   have A12:=Aside0.mk aj
   clear aj
   simp only[Option.some.injEq,Prod.mk.injEq]at H
   obtain⟨rfl,rfl⟩:=H
   go_wp2_with (first|((with_reducible refine gate_callee (f:=180) rfl ?_);refine kgl (some 31) rfl rfl Tryz.func180 #[.slice A1 l1.length c1,.int .u32 aa] rfl ?_;(with_reducible refine(tribunalref02_timesD.calls k1 _ _ l1 aa ag _ ?side1 ?side2 A11.out).mono ?_);(case side1=>repeat (first|exact(Kd.C_below HR1.out HB.out)|(with_reducible refine Kd.C_alloc ?_ _)|(with_reducible refine Kd.C_drewN ?_ _)|(with_reducible refine Kd.C_drew ?_)));(case side2=>exact HC1.out);rintro e w13 ⟨aw,rfl,ho0,hb⟩;refine⟨_,rfl,?_⟩;have af:=Aside0.mk (Kd.V_lower (Kd.V_mono (ok':=fun k_=>(w.heap.size≤k_)) ho0 (fun k_ hk_=>(Nat.le_trans (below_size (khu HB.out)) hk_))) (below_size (khu HB.out)));replace HB:=kbs HB hb;(try clear hb);(try clear hb2);(try clear hk);(try clear hi);(try clear ho0);obtain⟨ar,au,av⟩:=Kd.V_slice af.out;subst av)|((with_reducible refine gate_callee (f:=151) rfl ?_);refine kgl (some 32) rfl rfl Tryz.func151 #[.slice A0 l0.length c0,.slice ar ag.length au] rfl ?_;(with_reducible refine(tribunalref02_subD.calls k1 _ _ l0 _ _ ag ah _ ?side1 ?side2 ?side3 ?side4 A12.out).mono ?_);(case side1=>repeat (first|exact(Kd.C_below HR0.out HB.out)|(with_reducible refine Kd.C_alloc ?_ _)|(with_reducible refine Kd.C_drewN ?_ _)|(with_reducible refine Kd.C_drew ?_)));(case side2=>exact HC0.out);(case side3=>repeat (first|exact(Kd.V_reads' af.out).2.2|(with_reducible refine Kd.C_alloc ?_ _)|(with_reducible refine Kd.C_drewN ?_ _)|(with_reducible refine Kd.C_drew ?_)));(case side4=>exact(Kd.V_reads' af.out).2.1);rintro e w15 ⟨ax,rfl,ho0,hb⟩;refine⟨_,rfl,?_⟩;replace af:=kvb af hb;have ak:=Aside0.mk (Kd.V_lower (Kd.V_mono (ok':=fun k_=>(w.heap.size≤k_)) ho0 (fun k_ hk_=>(Nat.le_trans (below_size (khu HB.out)) hk_))) (below_size (khu HB.out)));replace HB:=kbs HB hb;(try clear hb);(try clear hb2);(try clear hk);(try clear hi);(try clear ho0)))
   go_ret2
   exact⟨_,Y2,by(with_reducible repeat (first|apply Kd.V_alloc|apply Kd.V_drewN|apply Kd.V_drew));exact ak.out,J1⟩
def tribunalref02_divD.l0:Nat→List Int→List Int→List Int→List Int→Int→Option (List Int×List Int)
 | 0,_,_,_,_,_=>none
 | k+1,x0,x1,x6,x7,x8=>if x8≥0 then(if 0≤x8 then(if x8<(x0.length:Int) then((some (([rd x0 x8]:List Int):List Int)).bind fun y1131=>(if y1131.length+x7.length<70368744177664 then((tribunalref02_trim.f k (y1131++x7)).bind fun t1137=>((tribunalref02_digit.f k t1137 x1).bind fun bt1140=>(if x8<(x6.length:Int) then(tribunalref02_divD.l0 k x0 x1 (x6.set (x8:Int).toNat bt1140.1) bt1140.2 (wrap64 (x8-1))) else(none)))) else(none))) else(none)) else(none)) else((tribunalref02_trim.f k x6).bind fun t1145=>(some (t1145,x7)))
def tribunalref02_divD.f (k:Nat) (l0:List Int) (l1:List Int):Option (List Int×List Int):=if 0≤(l0.length:Int) then(if((l0.length:Int):Int).toNat≤140737488355328 then(tribunalref02_divD.l0 k l0 l1 (List.replicate ((l0.length:Int):Int).toNat 0) ([]:List Int) (wrap64 ((l0.length:Int)-1))) else(none)) else(none)
theorem tribunalref02_divD.calls (k:Nat) (A0:Option Addr) (c0:Nat) (l0:List Int) (A1:Option Addr) (c1:Nat) (l1:List Int) (r1:List Int) (r2:List Int) (w:World) (hr0:Kd.C (Kd.int .u16) w A0 l0.length l0) (hc0:l0.length≤c0) (hr1:Kd.C (Kd.int .u16) w A1 l1.length l1) (hc1:l1.length≤c1) (h:tribunalref02_divD.f k l0 l1=some (r1,r2)) :
  Calls Tryz.prog 152 #[.slice A0 l0.length c0,.slice A1 l1.length c1] w fun e w'=>∃v0_ v1_:Value,e=.returned (.tuple #[v0_,v1_])∧Kd.V (Kd.int .u16) 127 w' w.heap.size (fun k_=>(w.heap.size≤k_)) v0_ r1∧Kd.V (Kd.int .u16) 127 w' w.heap.size (fun k_=>(w.heap.size≤k_)) v1_ r2∧Below w.heap.size w w':=by
 have HR0:=Aside0.mk hr0
 have HC0:=Aside0.mk hc0
 clear hr0 hc0
 have HR1:=Aside0.mk hr1
 have HC1:=Aside0.mk hc1
 clear hr1 hc1
 have HB:=Aside0.mk (Below.refl w.heap.size w)
 have H:(if 0≤(l0.length:Int) then(if((l0.length:Int):Int).toNat≤140737488355328 then(tribunalref02_divD.l0 k l0 l1 (List.replicate ((l0.length:Int):Int).toNat 0) ([]:List Int) (wrap64 ((l0.length:Int)-1))) else(none)) else(none))=some (r1,r2):=h
 clear h
 by_cases c3:0≤(l0.length:Int)
 ·rw [if_pos c3]at H
  have bg:=eq_true c3
  have bh:decide (0≤(l0.length:Int))=true:=decide_eq_true c3
  clear c3
  by_cases c4:((l0.length:Int):Int).toNat≤140737488355328
  ·rw [if_pos c4]at H
   have bi:=eq_true c4
   have bj:decide (((l0.length:Int):Int).toNat≤140737488355328)=true:=decide_eq_true c4
   clear c4
   obtain⟨aK,am⟩:∃y_:List Int,y_=(List.replicate ((l0.length:Int):Int).toNat 0):=⟨_,rfl⟩
   replace H:(tribunalref02_divD.l0 k l0 l1 aK ([]:List Int) (wrap64 ((l0.length:Int)-1)))=some (r1,r2):=by first|(rw[am];with_reducible exact H)|(have H2_:=(Option.bind_some _ _).symm.trans H;rw[am];with_reducible exact H2_)|(have H2_:=(Option.bind_some _ _).symm.trans H;with_reducible exact H2_)|with_reducible exact H|(rw[am];exact H)|exact H
   have aG:=Aside0.mk am
   clear am
   have H':=Aside0.mk H
   clear H
   go_enter Tryz.func152,Tryz.ntmps152
   go_wp2_with (first|((with_reducible refine gate_dst (N:=13) rfl ?_);refine Kd.R_make (Kd.int .u16) _ 127 rfl (N:=13) rfl 79 _ _ rfl (l0.length:Int) rfl rfl Tryz.underlying79 (.int .u16 0) 2 info127 rfl X0 Z0 0 (ok:=fun _=>True) (okp:=fun _=>True) rfl (fun _ hk=>hk) trivial (of_decide_eq_true ‹_›) (Nat.le_trans (Nat.mul_le_mul_right _ (of_decide_eq_true ‹_›:(l0.length:Int).toNat≤140737488355328)) Z0) (Below.refl _ _) (Nat.le_refl _) ?_;intro aq w5 ho6 hb hg_ hnew_;clear hg_ hnew_;(first|rw[←aG.out]at ho6|(simp only[Int.reduceToNat]at ho6;rw[←aG.out]at ho6));have aN:=Aside0.mk (Kd.R_lower (Kd.R_newM (M:=fun k_=>(w.heap.size≤k_)) ho6 (below_size (khu HB.out)) (fun k_ h_=>h_)) (below_size (khu HB.out)));replace HB:=kbs HB hb;clear hb ho6))
   go_loopg [7,8] k (fun kq v7 v8 w'=>∃(ab:List Int) (ak:List Int) (aa:Int),v8=.int .i64 aa∧Aside0 (tribunalref02_divD.l0 kq l0 l1 ab ak aa=some (r1,r2))∧Aside0 (kq≤k)∧Aside0 (Kd.R (Kd.int .u16) 127 w' w.heap.size (fun k_=>(w.heap.size≤k_)) aq ab)∧Aside0 (Kd.V (Kd.int .u16) 127 w' w.heap.size (fun k_=>(w.heap.size≤k_)∧some k_≠(aq:Value).ownBlock) v7 ak)∧Aside0 (Below w.heap.size w w'))
   case atStart=>exact⟨(aK),(([]:List Int)),(wrap64 ((l0.length:Int)-1)),J0,H',⟨Nat.le_refl _⟩,⟨by(with_reducible repeat (first|apply Kd.R_alloc|apply Kd.R_drewN|apply Kd.R_drew));exact Kd.R_mono aN.out (fun _ hk=>hk.1)⟩,⟨Kd.V_nil _ _ _ _ _⟩,⟨J1⟩⟩
   case round=>
    clear H'
    try clear c1
    try clear p2
    try clear c3
    try clear bg
    try clear bh
    try clear c4
    try clear bi
    try clear bj
    try clear p6
    obtain⟨ab,ak,aa,rfl,HA,HK1,ac,ae,HB⟩:=hrel
    cases gk with
    | zero=>exact absurd HA.out (by simp[tribunalref02_divD.l0])
    | succ k1=>
     have H:=HA.out
     clear HA
     simp only[tribunalref02_divD.l0]at H
     by_cases c7:aa≥0
     ·rw [if_pos c7]at H
      have bk:decide (0≤aa)=true:=decide_eq_true c7
      clear c7
      by_cases c8:0≤aa
      ·rw [if_pos c8]at H
       have bD:decide (0≤aa)=true:=decide_eq_true c8
       clear c8
       by_cases c9:aa<(l0.length:Int)
       ·rw[if_pos c9]at H
        have bE:decide (aa<(l0.length:Int))=true:=decide_eq_true c9
        clear c9
        obtain⟨av,an⟩:∃y_:List Int,y_=(([rd l0 aa]:List Int)):=⟨_,rfl⟩
        replace H:(if av.length+ak.length<70368744177664 then((tribunalref02_trim.f k1 (av++ak)).bind fun ai=>((tribunalref02_digit.f k1 ai l1).bind fun af=>(if aa<(ab.length:Int) then(tribunalref02_divD.l0 k1 l0 l1 (ab.set (aa:Int).toNat af.1) af.2 (wrap64 (aa-1))) else(none)))) else(none))=some (r1,r2):=by first|(rw[an];with_reducible exact H)|(have H2_:=(Option.bind_some _ _).symm.trans H;rw[an];with_reducible exact H2_)|(have H2_:=(Option.bind_some _ _).symm.trans H;with_reducible exact H2_)|with_reducible exact H|(rw[an];exact H)|exact H
        have aH:=Aside0.mk an
        clear an
        by_cases c10:av.length+ak.length<70368744177664
        ·rw[if_pos c10]at H
         have bd:=Aside0.mk c10
         clear c10
         obtain⟨aj,ao⟩:∃y_:List Int,y_=(av++ak):=⟨_,rfl⟩
         replace H:((tribunalref02_trim.f k1 aj).bind fun ai=>((tribunalref02_digit.f k1 ai l1).bind fun af=>(if aa<(ab.length:Int) then(tribunalref02_divD.l0 k1 l0 l1 (ab.set (aa:Int).toNat af.1) af.2 (wrap64 (aa-1))) else(none))))=some (r1,r2):=by first|(rw[ao];with_reducible exact H)|(have H2_:=(Option.bind_some _ _).symm.trans H;rw[ao];with_reducible exact H2_)|(have H2_:=(Option.bind_some _ _).symm.trans H;with_reducible exact H2_)|with_reducible exact H|(rw[ao];exact H)|exact H
         have aP:=Aside0.mk ao
         clear ao
         replace H:=Option.bind_eq_some_iff.mp H
         obtain⟨ai,aQ,H⟩:=H
         replace H:((tribunalref02_digit.f k1 ai l1).bind fun af=>(if aa<(ab.length:Int) then(tribunalref02_divD.l0 k1 l0 l1 (ab.set (aa:Int).toNat af.1) af.2 (wrap64 (aa-1))) else(none)))=some (r1,r2):=H
         have A11:=Aside0.mk aQ
         clear aQ
         replace H:=Option.bind_eq_some_iff.mp H
         obtain⟨⟨aw,az⟩,aT,H⟩:=H
         replace H:(if aa<(ab.length:Int) then(tribunalref02_divD.l0 k1 l0 l1 (ab.set (aa:Int).toNat aw) az (wrap64 (aa-1))) else(none))=some (r1,r2):=H
         have A12:=Aside0.mk aT
         clear aT
         by_cases c13:aa<(ab.length:Int)
         ·rw[if_pos c13]at H
          have bx:decide (aa<(ab.length:Int))=true:=decide_eq_true c13
          clear c13
          obtain⟨aC,ap⟩:∃y_:List Int,y_=(ab.set (aa:Int).toNat aw):=⟨_,rfl⟩
          replace H:(tribunalref02_divD.l0 k1 l0 l1 aC az (wrap64 (aa-1)))=some (r1,r2):=by first|(rw[ap];with_reducible exact H)|(have H2_:=(Option.bind_some _ _).symm.trans H;rw[ap];with_reducible exact H2_)|(have H2_:=(Option.bind_some _ _).symm.trans H;with_reducible exact H2_)|with_reducible exact H|(rw[ap];exact H)|exact H
          have aU:=Aside0.mk ap
          clear ap
          have H':=Aside0.mk H
          clear H
          have aD:0≤(aa:Int):=of_decide_eq_true ‹_›
          have aE:aa<(l0.length:Int):=of_decide_eq_true ‹_›
          obtain⟨bu,be,ar⟩:=Kd.at_int HR0.out aa aD aE
          cases be
          replace ar:=(HB.out.cell (World.block_lt_of_cell? w _ ar)).trans ar
          replace aD:=eq_true aD
          replace aE:=eq_true aE
          go_wp2_with (first|((with_reducible refine gate_dst (N:=25) rfl ?_);refine Kd.R_lit (Kd.int .u16) _ 127 ?hg (N:=25) ?hd (xs:=([rd l0 aa]:List Int)) (inner:=[.int .u16 (rd l0 aa)]) (ok:=fun _=>True) (okp:=fun _=>True) ?hr ?hp (fun _ hk=>hk) trivial (Below.refl _ _) (Nat.le_refl _) Z1 ?_;(case hd=>rfl);(case hg=>rfl);(case hr=>first|(go_simp;done)|(go_simp;rfl));(case hp=>exact(Reps.one (show Kd.M (Kd.int .u16) _ _ _ (rd l0 aa) [.int .u16 (rd l0 aa)] from rfl) (Reps.none _ _)));intro bf w15 au hb hg_ hnew_;clear hg_ hnew_;(first|rw[←aH.out]at au|(simp only[Int.reduceToNat]at au;rw[←aH.out]at au));replace ae:=Aside0.mk (Kd.V_elder' (kvu ae.out) (Kd.R_base au) hb);have aI:=Aside0.mk (Kd.R_lower (Kd.R_new' (Kd.R_newM (M:=fun k_=>(w.heap.size≤k_)) au (below_size (khu HB.out)) (fun k_ h_=>h_)) (Kd.R_lt (kru ac.out))) (below_size (khu HB.out)));replace ac:=Aside0.mk (Kd.R_elder' (kru ac.out) (Kd.R_base au) hb);replace HB:=kbs HB hb;clear hb au;obtain⟨bF,bG,bl⟩:=Kd.V_slice ae.out;subst bl)|((with_reducible refine gate_builtin (b:=.append) (xs:=#[.tmp 25,.tmp 26]) rfl ?_);at_builtin;refine Kd.R_append_rows (Kd.int .u16) (w0:=w) w.heap.size rfl (.tmp 25) (.tmp 26) 79 127 (.int .u16 0) 2 rfl Tryz.underlying79 info127 rfl X0 Z0 bf av ak _ _ _ (fun k_=>(w.heap.size≤k_)∧some k_≠(aq:Value).ownBlock) (fun _=>False) rfl rfl ?aO ?aR (fun _ _ h=>h) (fun _ h=>h.elim) ?aF ?aB ?aS ?aL ?_;(case aR=>repeat (first|exact(Kd.V_reads' ae.out).2.2|(with_reducible refine Kd.C_alloc ?_ _)|(with_reducible refine Kd.C_drewN ?_ _)|(with_reducible refine Kd.C_drew ?_)));(case aB=>exact(khu HB.out));(case aF=>exact(fun k_ hk=>⟨(Nat.le_trans (below_size (khu HB.out)) hk),Kd.fresh' (Kd.R_lt (kru ac.out)) k_ hk⟩));(case aO=>exact(by(with_reducible repeat (first|apply Kd.R_alloc|apply Kd.R_drewN|apply Kd.R_drew));exact Kd.R_mono aI.out (fun _ hk=>⟨hk.1.1,hk.2⟩)));(case aS=>exact(below_size (khu HB.out)));(case aL=>have:=bd.out;omega);intro bz w17 ho hb hg hat;rw[←aP.out]at ho;replace ac:=Aside0.mk (Kd.R_after (ok:=(fun k_=>(w.heap.size≤k_))) (kru ac.out) hg hat);replace ae:=Aside0.mk (Kd.V_afterv (ok:=(fun k_=>(w.heap.size≤k_)∧some k_≠(aq:Value).ownBlock)) (kvu ae.out) hg hat);replace HB:=Aside0.mk (hb);have ad:=Aside0.mk (ho);clear aI;clear ho hb hg hat;obtain⟨ax,ay,bn⟩:=Kd.R_slice ad.out;subst bn)|((with_reducible refine gate_callee (f:=155) rfl ?_);refine kgl (some 28) rfl rfl Tryz.func155 #[.slice ax aj.length ay] rfl ?_;(with_reducible refine(tribunalref02_trim.calls k1 (fun k_=>some k_=(.slice ax aj.length ay:Value).ownBlock) _ _ aj ai _ ?side1 A11.out).mono ?_);(case side1=>exact Kd.R_V (Kd.R_tight rfl (ad.out)));rintro e w20 ⟨bA,rfl,ho0,hb⟩;refine⟨_,rfl,?_⟩;replace ae:=kvb ae hb;have ag:=Aside0.mk (Kd.V_lower (Kd.V_mono (ok':=fun k_=>(w.heap.size≤k_)∧some k_≠(aq:Value).ownBlock) ho0 (fun k_ hk_=>⟨Or.elim hk_ (fun hs_=>((ad.out).1 k_ hs_.symm).1) (fun hn_=>(Nat.le_trans (below_size (khu HB.out)) hn_)),Or.elim hk_ (fun hs_=>((ad.out).1 k_ hs_.symm).2) (fun hn_=>(Kd.fresh' (Kd.R_lt (kru ac.out)) k_ hn_))⟩)) (below_size (khu HB.out)));replace ac:=krb ac hb;replace ad:=krb ad hb;replace HB:=kbs HB hb;(try clear hb);(try clear hb2);(try clear hk);(try clear hi);(try clear ho0);obtain⟨Ao21,co21,bo⟩:=Kd.V_slice ag.out;subst bo)|((with_reducible refine gate_callee (f:=167) rfl ?_);refine kgl (some 32) rfl rfl Tryz.func167 #[.slice Ao21 ai.length co21,.slice A1 l1.length c1] rfl ?_;(with_reducible refine(tribunalref02_digit.calls k1 _ _ ai _ _ l1 aw az _ ?side1 ?side2 ?side3 ?side4 A12.out).mono ?_);(case side1=>repeat (first|exact(Kd.V_reads' ag.out).2.2|(with_reducible refine Kd.C_alloc ?_ _)|(with_reducible refine Kd.C_drewN ?_ _)|(with_reducible refine Kd.C_drew ?_)));(case side2=>exact(Kd.V_reads' ag.out).2.1);(case side3=>repeat (first|exact(Kd.C_below HR1.out HB.out)|(with_reducible refine Kd.C_alloc ?_ _)|(with_reducible refine Kd.C_drewN ?_ _)|(with_reducible refine Kd.C_drew ?_)));(case side4=>exact HC1.out);rintro e w22 ⟨bB,rfl,ho0,hb⟩;refine⟨_,rfl,?_⟩;replace ae:=kvb ae hb;replace ag:=kvb ag hb;have aA:=Aside0.mk (Kd.V_lower (Kd.V_mono (ok':=fun k_=>(w.heap.size≤k_)∧some k_≠(aq:Value).ownBlock∧some k_≠(.slice ax aj.length ay:Value).ownBlock) ho0 (fun k_ hk_=>⟨(Nat.le_trans (below_size (khu HB.out)) hk_),(Kd.fresh' (Kd.R_lt (kru ac.out)) k_ hk_),(Kd.fresh' (Kd.R_lt (kru ad.out)) k_ hk_)⟩)) (below_size (khu HB.out)));replace ac:=krb ac hb;replace ad:=krb ad hb;replace HB:=kbs HB hb;(try clear hb);(try clear hb2);(try clear hk);(try clear hi);(try clear ho0);have p14:0≤(aa:Int):=of_decide_eq_true ‹_›;have q14:(aa:Int)<((ab.length:Int):Int):=of_decide_eq_true ‹_›;obtain⟨ah,al,aV,aW,bp,bH,aX⟩:=Kd.R_form ac.out Z0;(first|cases aV|(injection aV with ea_ en_ ec_;(first|subst ea_|(injection ea_ with ea_;subst ea_));subst ec_;clear en_));have bq:=Aside0.mk aW;have bI:=Aside0.mk aX;clear aW bp aX;obtain⟨bv,bw⟩:=Kd.R_celln 0 ac.out (aa:Int) p14 q14;replace p14:=eq_true p14;replace q14:=eq_true q14;obtain⟨hy23_,hz23_⟩:=Kd.R_celln 0 ac.out (aa:Int) (of_decide_eq_true ‹_›) (of_decide_eq_true ‹_›);have aJ:=Kd.R_putg ac.out (aa:Int) aw)|((with_reducible refine gate_store (t:=127) (p:=38) rfl ?_);refine store_event (t:=127) (p:=38) (v:=?vo_w24) (w1:=(w22.setCell ⟨ah,(aa:Int).toNat,none⟩ (.int .u16 aw))) ?hg ?ho ?hn ?hr ?_;(case ho=>rfl);(case hg=>rfl);(case hn=>rfl);(case hr=>first|(go_simp;done)|(go_simp;rfl));intro w24 hw;have hg:w22.grownBy w24 (some ah):=(by rw[hw];exact aJ.2);have hp_:Kd.R (Kd.int .u16) 127 w24 w.heap.size (fun k_=>(w.heap.size≤k_)∧some k_≠(.slice ax aj.length ay:Value).ownBlock) (.slice (some ⟨ah,0,none⟩) ab.length al) aC:=(by rw[hw,aU.out];exact aJ.1);clear aJ;replace ac:=Aside0.mk (hp_);replace ae:=Aside0.mk (Kd.V_afterv (v:=(.slice (some ⟨ah,0,none⟩) ab.length al)) (v1:=(.slice (some ⟨ah,0,none⟩) ab.length al)) (ok:=(fun k_=>(w.heap.size≤k_)∧some k_≠(.slice ax aj.length ay:Value).ownBlock)) (by(with_reducible repeat (first|apply Kd.V_alloc|apply Kd.V_drewN|apply Kd.V_drew));exact Kd.V_mono ae.out (fun _ hk=>⟨⟨hk.1.1,hk.2⟩,hk.1.2⟩)) hg (.inl rfl));replace ad:=Aside0.mk (Kd.R_after (v:=(.slice (some ⟨ah,0,none⟩) ab.length al)) (v1:=(.slice (some ⟨ah,0,none⟩) ab.length al)) (ok:=(fun k_=>(w.heap.size≤k_))) (kru ad.out) hg (.inl rfl));replace ag:=Aside0.mk (Kd.V_afterv (v:=(.slice (some ⟨ah,0,none⟩) ab.length al)) (v1:=(.slice (some ⟨ah,0,none⟩) ab.length al)) (ok:=(fun k_=>(w.heap.size≤k_))) (kvu ag.out) hg (.inl rfl));replace aA:=Aside0.mk (Kd.V_afterv (v:=(.slice (some ⟨ah,0,none⟩) ab.length al)) (v1:=(.slice (some ⟨ah,0,none⟩) ab.length al)) (ok:=(fun k_=>(w.heap.size≤k_)∧some k_≠(.slice ax aj.length ay:Value).ownBlock)) (by(with_reducible repeat (first|apply Kd.V_alloc|apply Kd.V_drewN|apply Kd.V_drew));exact Kd.V_mono aA.out (fun _ hk=>⟨⟨hk.1,hk.2.2⟩,hk.2.1⟩)) hg (.inl rfl));replace HB:=Aside0.mk ((by rw[hw];exact below_set (HB.out) bq.out:Below w.heap.size w w24));clear hg hw hp_))
          go_roundg k1
          case measure=>have:=HK1.out;omega
          case rel=>exact⟨(aC),(az),(wrap64 (aa-1)),J0,H',⟨X2⟩,⟨by(with_reducible repeat (first|apply Kd.R_alloc|apply Kd.R_drewN|apply Kd.R_drew));exact Kd.R_mono ac.out (fun _ hk=>hk.1)⟩,⟨by(with_reducible repeat (first|apply Kd.V_alloc|apply Kd.V_drewN|apply Kd.V_drew));exact Kd.V_mono aA.out (fun _ hk=>⟨hk.1.1,hk.2⟩)⟩,⟨J1⟩⟩
         rw[if_neg c13]at H
         exact absurd H Z1
        rw[if_neg c10]at H
        exact absurd H Z1
       rw[if_neg c9]at H
       exact absurd H Z1
      rw[if_neg c8]at H
      exact absurd H Z1
     rw[if_neg c7]at H
     have bk:decide (0≤aa)=false:=decide_eq_false c7
     clear c7
     replace H:=Option.bind_eq_some_iff.mp H
     obtain⟨aM,aY,H⟩:=H
     replace H:(some (aM,ak))=some (r1,r2):=H
     have A25:=Aside0.mk aY
     clear aY
     simp only[Option.some.injEq,Prod.mk.injEq]at H
     obtain⟨rfl,rfl⟩:=H
     obtain⟨aZ,bb,br⟩:=Kd.R_slice ac.out
     subst br
     go_wp2_with (first|((with_reducible refine gate_callee (f:=155) rfl ?_);refine kgl (some 41) rfl rfl Tryz.func155 #[.slice aZ ab.length bb] rfl ?_;(with_reducible refine(tribunalref02_trim.calls k1 (fun k_=>some k_=(.slice aZ ab.length bb:Value).ownBlock) _ _ ab aM _ ?side1 A25.out).mono ?_);(case side1=>exact Kd.R_V (Kd.R_tight rfl (ac.out)));rintro e w27 ⟨bC,rfl,ho0,hb⟩;refine⟨_,rfl,?_⟩;replace ae:=kvb ae hb;have bc:=Aside0.mk (Kd.V_lower (Kd.V_mono (ok':=fun k_=>(w.heap.size≤k_)) ho0 (fun k_ hk_=>Or.elim hk_ (fun hs_=>((ac.out).1 k_ hs_.symm)) (fun hn_=>(Nat.le_trans (below_size (khu HB.out)) hn_)))) (below_size (khu HB.out)));replace ac:=krb ac hb;replace HB:=kbs HB hb;(try clear hb);(try clear hb2);(try clear hk);(try clear hi);(try clear ho0)))
     go_ret2
     exact⟨_,_,Y2,by(with_reducible repeat (first|apply Kd.V_alloc|apply Kd.V_drewN|apply Kd.V_drew));exact bc.out,by(with_reducible repeat (first|apply Kd.V_alloc|apply Kd.V_drewN|apply Kd.V_drew));exact Kd.V_mono ae.out (fun _ hk=>hk.1),J1⟩
  rw[if_neg c4]at H
  exact absurd H Z1
 rw[if_neg c3]at H
 exact absurd H Z1
end Go.Proofs.YtncomlmhagaajaaGreat.PBo
namespace Go.Proofs.YtncomlmhagaajaaGreat.PBo
open Go.Proofs.YtncomlmhagaajaaGreat.Mine Go.RowKit Go.Proofs.YtncomlmhagaajaaGreatW.PrintWords Go.Proofs.YtncomlmhagaajaaGreatW.PrintLast Go.Proofs.YtncomlmhagaajaaGreatW.PrintMore
open Go.Proofs.YtncomlmhagaajaaGreat.Mine
attribute [local go_sem] max2_int min2_int max_two min_two max_three min_three max_four min_four
def tribunalref02_Cut.f (k:Nat) (a0_0:Bool) (l0_1:List Int) (a1_0:Bool) (l1_1:List Int):Option (Bool×List Int×Bool×List Int):=(tribunalref02_divD.f k l0_1 l1_1).bind fun bt1152=>((tribunalref02_Make.f k (a0_0 != a1_0) bt1152.1).bind fun bt1158=>((tribunalref02_Make.f k a0_0 bt1152.2).bind fun bt1162=>(some (bt1158.1,bt1158.2,bt1162.1,bt1162.2))))
def tribunalref02_Cut.T2:Bool×List (List Nat×List Nat):=(true,[([],[]),([0],[0]),([],[]),([2],[2]),([1,3],[1,3]),([],[]),([4,5],[4,5]),([],[]),([7],[7]),([],[]),([8,9,6],[8,9]),([6,10,0,1,2,3,4,5,6],[6]),([10,11,0,1,2,3,4,5,6,7,8,9,10,11],[10])])
def tribunalref02_Cut.B2:List Nat:=[0,1,0,4,15,0,63,0,128,0,1023,2047,4095]
theorem tribunalref02_Cut.tab2:rtab .any (opsOf Tryz.f85 2)=tribunalref02_Cut.T2:=by kernel_rfl
theorem tribunalref02_Cut.bits2:waitsOk tribunalref02_Cut.T2.2 tribunalref02_Cut.B2=true:=by kernel_rfl
theorem tribunalref02_Cut.calls (k:Nat) (ac:Bool) (ae:Option Addr) (af:Nat) (aa:List Int) (ad:Bool) (ag:Option Addr) (ah:Nat) (ab:List Int) (r1:Bool) (r2:List Int) (r3:Bool) (r4:List Int) (w:World) (ai:Kd.C (Kd.int .u16) w ae aa.length aa) (aj:aa.length≤af) (ak:Kd.C (Kd.int .u16) w ag ab.length ab) (al:ab.length≤ah) (h:tribunalref02_Cut.f k ac aa ad ab=some (r1,r2,r3,r4)) :
  Calls Tryz.prog 85 #[.agg #[.bool ac,.slice ae aa.length af],.agg #[.bool ad,.slice ag ab.length ah]] w fun e w'=>∃v1_ v3_:Value,e=.returned (.tuple #[.agg #[.bool r1,v1_],.agg #[.bool r3,v3_]])∧Kd.V (Kd.int .u16) 127 w' w.heap.size (fun k_=>(w.heap.size≤k_)) v1_ r2∧Kd.V (Kd.int .u16) 127 w' w.heap.size (fun k_=>(w.heap.size≤k_)) v3_ r4∧Below w.heap.size w w':=by
 have aq:=Tryz.underlying81
 have K:=Kp.refl w
 replace K:=K.parV (Kd.V_mono (ok':=fun k=>k<w.heap.size) (Kd.V_mk (e:=127) (base:=0) aj (Kd.C_F (Kd.heap_int .u16) ai)) (fun _ h=>h))
 clear ai aj
 replace K:=K.parV (Kd.V_mono (ok':=fun k=>k<w.heap.size) (Kd.V_mk (e:=127) (base:=0) al (Kd.C_F (Kd.heap_int .u16) ak)) (fun _ h=>h))
 clear ak al
 try simp only[klv]at K
 rw[tribunalref02_Cut.f]at h
 replace h:=bindA h
 obtain⟨⟨x9,x10⟩,A11,h⟩:=h
 dsimp only at h
 go_enter Tryz.func85,Tryz.ntmps85
 go_wp2_with (first|((with_reducible refine gate_dst (N:=2) rfl ?_);refine kbe 2 #[.bool ac,.slice ae aa.length af] 81 ?_;intro g1 hg W2 hx hb;replace K:=K.u.box hg hx hb;clear hg hx hb)|((with_reducible refine gate_dst (N:=3) rfl ?_);refine kbe 3 #[.bool ad,.slice ag ab.length ah] 81 ?_;intro g3 hg W4 hx hb;replace K:=K.u.box hg hx hb;clear hg hx hb)|((with_reducible refine gate_dst (N:=4) rfl ?_);refine kbe 4 #[.bool false,.slice none 0 0] 81 ?_;intro g5 hg W6 hx hb;replace K:=K.u.box hg hx hb;clear hg hx hb)|((with_reducible refine gate_dst (N:=5) rfl ?_);refine kbe 5 #[.bool false,.slice none 0 0] 81 ?_;intro g7 hg W8 hx hb;replace K:=K.u.box hg hx hb;clear hg hx hb;obtain⟨ua0,ub0⟩:=K.cell2 0 rfl;obtain⟨ua1,ub1⟩:=K.cell2 1 rfl)|((with_reducible refine gate_dst (N:=13) rfl ?_);clear ua0 ub0 ua1 ub1;refine kgl (some 13) rfl rfl Tryz.func152 #[.slice ae aa.length af,.slice ag ab.length ah] rfl ?_;refine(tribunalref02_divD.calls _ _ _ aa _ _ ab x9 x10 _ (K.C 0 rfl) (K.le 0 rfl) (K.C 1 rfl) (K.le 1 rfl) A11.out).mono ?_;rintro e W16 ⟨v12,v13,rfl,am,an,hb⟩;refine⟨_,rfl,?_⟩;have K1:=K.u.addF (fun _=>False) hb am;replace K:=K.u.moreF (fun _=>False) K1 an;clear K1;clear hb am an;obtain⟨P17,c18,e19⟩:=K.slice 2 rfl;subst e19;obtain⟨P20,c21,e22⟩:=K.slice 3 rfl;subst e22))
 replace h:=bindA h
 obtain⟨⟨z23,x24⟩,A25,h⟩:=h
 dsimp only at h
 replace h:=bindA h
 obtain⟨⟨z26,x27⟩,A28,h⟩:=h
 dsimp only at h
 obtain⟨Bs,Vs,Os,hBs,hVs,hOs,K⟩:=K.abs
 have HS:Aside0 (∀l m o W,Kp w (Bs++l) m o W→W.cell? ⟨g1,0,none⟩=some (.bool ac)∧W.cell? ⟨g1,1,none⟩=some (.slice ae aa.length af)∧W.cell? ⟨g3,0,none⟩=some (.bool ad)∧W.cell? ⟨g3,1,none⟩=some (.slice ag ab.length ah)):=⟨fun l m o W K=>by rw[hBs.out]at K;exact⟨K.cell 0 rfl 0 rfl,K.cell 0 rfl 1 rfl,K.cell 1 rfl 0 rfl,K.cell 1 rfl 1 rfl⟩⟩
 refine kpstart (n:=13) (ds:=[]) (S:=fun W=>W.cell? ⟨g1,0,none⟩=some (.bool ac)∧W.cell? ⟨g1,1,none⟩=some (.slice ae aa.length af)∧W.cell? ⟨g3,0,none⟩=some (.bool ad)∧W.cell? ⟨g3,1,none⟩=some (.slice ag ab.length ah)) #[false,false,false,false,false,false,false,false,false,false,false,false,false] Y0 rfl rfl K (HS.out [] _ _) (fun W31 K hH=>?_)
 refine with_tabW tribunalref02_Cut.tab2 tribunalref02_Cut.bits2 (fun HT_ HW_=>?_)
 refine pure_ (i:=0) (N:=some 16) (v:=?_) (a':=?_) #[true,false,false,false,false,false,false,false,false,false,false,false,false] rfl rfl (any_of HT_.out Y0) (fun _ _ _ h=>h) (Or.inl ⟨F0,?_⟩) ?_ ?_
 rotate_left
 ·intro w'
  go_simp
  with_reducible rfl
 rotate_left
 ·simp only[Act.put,kss,i64_w,i32_w]
  rfl
 refine take_ (i:=1) (N:=some 17) (v:=?_) (a':=?_) #[true,true,false,false,false,false,false,false,false,false,false,false,false] rfl rfl (take_ofW HT_.out HW_.out Y0) (fun _ _ _ h=>h) (Or.inl ⟨F0,?_⟩) hH ?_ ?_
 rotate_left
 ·rintro w' ⟨s0,s1,s2,s3⟩
  go_simp
  with_reducible rfl
 rotate_left
 ·simp only[Act.put,kss,i64_w,i32_w]
  rfl
 refine pure_ (i:=2) (N:=some 18) (v:=?_) (a':=?_) #[true,true,true,false,false,false,false,false,false,false,false,false,false] rfl rfl (any_of HT_.out Y0) (fun _ _ _ h=>h) (Or.inl ⟨F0,?_⟩) ?_ ?_
 rotate_left
 ·intro w'
  go_simp
  with_reducible rfl
 rotate_left
 ·simp only[Act.put,kss,i64_w,i32_w]
  rfl
 refine take_ (i:=3) (N:=some 19) (v:=?_) (a':=?_) #[true,true,true,true,false,false,false,false,false,false,false,false,false] rfl rfl (take_ofW HT_.out HW_.out Y0) (fun _ _ _ h=>h) (Or.inl ⟨F0,?_⟩) hH ?_ ?_
 rotate_left
 ·rintro w' ⟨s0,s1,s2,s3⟩
  go_simp
  with_reducible rfl
 rotate_left
 ·simp only[Act.put,kss,i64_w,i32_w]
  rfl
 refine pure_ (i:=4) (N:=some 20) (v:=?_) (a':=?_) #[true,true,true,true,true,false,false,false,false,false,false,false,false] rfl rfl (any_of HT_.out Y0) (fun _ _ _ h=>h) (Or.inl ⟨F0,?_⟩) ?_ ?_
 rotate_left
 ·intro w'
  go_simp
  with_reducible rfl
 rotate_left
 ·simp only[Act.put,kss,i64_w,i32_w]
  rfl
 refine pure_ (i:=5) (N:=some 21) (v:=?_) (a':=?_) #[true,true,true,true,true,true,false,false,false,false,false,false,false] rfl rfl (any_of HT_.out Y0) (fun _ _ _ h=>h) (Or.inl ⟨F0,?_⟩) ?_ ?_
 rotate_left
 ·intro w'
  go_simp
  with_reducible rfl
 rotate_left
 ·simp only[Act.put,kss,i64_w,i32_w]
  rfl
 refine pure_ (i:=7) (N:=some 23) (v:=?_) (a':=?_) #[true,true,true,true,true,true,false,true,false,false,false,false,false] rfl rfl (any_of HT_.out Y0) (fun _ _ _ h=>h) (Or.inl ⟨F0,?_⟩) ?_ ?_
 rotate_left
 ·intro w'
  go_simp
  with_reducible rfl
 rotate_left
 ·simp only[Act.put,kss,i64_w,i32_w]
  rfl
 refine take_ (i:=8) (N:=some 24) (v:=?_) (a':=?_) #[true,true,true,true,true,true,false,true,true,false,false,false,false] rfl rfl (take_ofW HT_.out HW_.out Y0) (fun _ _ _ h=>h) (Or.inl ⟨F0,?_⟩) hH ?_ ?_
 rotate_left
 ·rintro w' ⟨s0,s1,s2,s3⟩
  go_simp
  with_reducible rfl
 rotate_left
 ·simp only[Act.put,kss,i64_w,i32_w]
  rfl
 refine pure_ (i:=9) (N:=some 25) (v:=?_) (a':=?_) #[true,true,true,true,true,true,false,true,true,true,false,false,false] rfl rfl (any_of HT_.out Y0) (fun _ _ _ h=>h) (Or.inl ⟨F0,?_⟩) ?_ ?_
 rotate_left
 ·intro w'
  go_simp
  with_reducible rfl
 rotate_left
 ·simp only[Act.put,kss,i64_w,i32_w]
  rfl
 refine one_ (i:=6) (N:=some 22) #[true,true,true,true,true,true,true,true,true,true,false,false,false] rfl rfl (one_of HT_.out Y0) X0 (fun Kc hK=>?_)
 refine kgo Tryz.func92 #[.bool (ac != ad),.slice P17 x9.length c18] F0 rfl rfl ?_
 refine(tribunalref02_Make.calls _ (ac != ad) _ _ _ x9 z23 x24 _ (K.V 2 X1) A25.out).mono ?_
 rintro e W' ⟨v29,rfl,ao,hb⟩
 replace K:=K.addI 0 (fun _=>False) hb ao (fun _ h=>h)
 clear hb ao
 refine⟨_,rfl,hK.out _ _ (HS.out _ _ _ _ K) fun hH=>?_⟩
 clear hK Kc
 refine norm_ (a':=?_) ?_ ?_
 rotate_left
 ·show Act.put _ (some 22) _=_
  simp only[Act.put,kss,i64_w,i32_w]
  rfl
 refine one_ (i:=10) (N:=some 26) #[true,true,true,true,true,true,true,true,true,true,true,false,false] rfl rfl (one_of HT_.out Y0) X0 (fun Kc hK=>?_)
 refine kgo Tryz.func92 #[.bool ac,.slice P20 x10.length c21] F0 rfl rfl ?_
 refine(tribunalref02_Make.calls _ ac _ _ _ x10 z26 x27 _ (K.V 3 X1) A28.out).mono ?_
 rintro e W' ⟨v30,rfl,ap,hb⟩
 replace K:=K.addI 1 (fun _=>False) hb ap (fun _ h=>h)
 clear hb ap
 refine⟨_,rfl,hK.out _ _ (HS.out _ _ _ _ K) fun hH=>?_⟩
 clear hK Kc
 refine norm_ (a':=?_) ?_ ?_
 rotate_left
 ·show Act.put _ (some 26) _=_
  simp only[Act.put,kss,i64_w,i32_w]
  rfl
 obtain⟨P34,c35,e36⟩:=K.slice 4 X1
 subst e36
 obtain⟨P37,c38,e39⟩:=K.slice 5 X1
 subst e39
 rw[hBs.out,hVs.out,hOs.out]at K
 simp only[kls,klv]at K
 clear hBs hVs hOs HS hH
 refine kone2 (i:=11) #[true,true,true,true,true,true,true,true,true,true,true,true,false] 2 (.bool z23) (.slice P34 x24.length c35) K rfl rfl rfl (one_of HT_.out Y0) X0 F0 ?_ (fun W K=>⟨K.cell 0 rfl 0 rfl,K.cell 0 rfl 1 rfl,K.cell 1 rfl 0 rfl,K.cell 1 rfl 1 rfl⟩) ?_
 ·intro c0 c1 f0 f1
  first|(go_simp;done)|(go_simp;rfl)
 clear K
 intro W40 K
 simp only[kls,klv]at K
 refine kone2 (i:=12) #[true,true,true,true,true,true,true,true,true,true,true,true,true] 3 (.bool z26) (.slice P37 x27.length c38) K rfl rfl rfl (one_of HT_.out Y0) X0 F0 ?_ (fun W K=>⟨K.cell 0 rfl 0 rfl,K.cell 0 rfl 1 rfl,K.cell 1 rfl 0 rfl,K.cell 1 rfl 1 rfl⟩) ?_
 ·intro c0 c1 f0 f1
  first|(go_simp;done)|(go_simp;rfl)
 clear K
 intro W41 K
 simp only[kls,klv]at K
 refine done_ (done_of HT_.out Y0) ?_
 clear HT_ HW_
 simp only[Option.some.injEq,Prod.mk.injEq]at h
 obtain⟨rfl,rfl,rfl,rfl⟩:=h
 go_wp2
 refine bodyPost_ret (results_list (rs:=[.cell 4 81,.cell 5 81]) rfl Z1 (.cell g5 81 #[.bool z23,.slice P34 x24.length c35] (0,0) _ rfl (K.u.heap 2 rfl) Tryz.underlying81 rfl Y0 (.cell g7 81 #[.bool z26,.slice P37 x27.length c38] (0,0) _ rfl (K.u.heap 3 rfl) Tryz.underlying81 rfl Y0 .nil))) rfl ?_
 exact⟨_,_,rfl,K.u.hand 4 rfl (fun _ h=>h.elim (fun h=>h.elim) id),K.u.hand 5 rfl (fun _ h=>h.elim (fun h=>h.elim) id),K.u.below⟩
def tribunalref02_Euclid.f (k:Nat) (a0_0:Bool) (l0_1:List Int) (a1_0:Bool) (l1_1:List Int):Option (Bool×List Int×Bool×List Int):=(tribunalref02_Cut.f k a0_0 l0_1 a1_0 l1_1).bind fun bt1170=>(if bt1170.2.2.1=true then((tribunalref02_Small1.f k 1).bind fun bt1180=>(if a1_0=true then((tribunalref02_Plus.f k bt1170.1 bt1170.2.1 bt1180.1 bt1180.2).bind fun bt1185=>((tribunalref02_Minus.f k a1_0 l1_1).bind fun bt1189=>((tribunalref02_Plus.f k bt1170.2.2.1 bt1170.2.2.2 bt1189.1 bt1189.2).bind fun bt1193=>(some (bt1185.1,bt1185.2,bt1193.1,bt1193.2))))) else((tribunalref02_Minus.f k bt1180.1 bt1180.2).bind fun bt1197=>((tribunalref02_Plus.f k bt1170.1 bt1170.2.1 bt1197.1 bt1197.2).bind fun bt1201=>((tribunalref02_Plus.f k bt1170.2.2.1 bt1170.2.2.2 a1_0 l1_1).bind fun bt1205=>(some (bt1201.1,bt1201.2,bt1205.1,bt1205.2))))))) else(some (bt1170.1,bt1170.2.1,bt1170.2.2.1,bt1170.2.2.2)))
def tribunalref02_Euclid.T6:Bool×List (List Nat×List Nat):=(true,[([],[]),([],[]),([0,1],[0,1]),([],[]),([],[]),([4,2],[4]),([3,5,5],[3,5]),([2,6,0,1,2],[2]),([6,7,0,1,2,3,4,5,6,7],[6])])
def tribunalref02_Euclid.B6:List Nat:=[0,0,3,0,0,23,63,127,255]
theorem tribunalref02_Euclid.tab6:rtab .any (opsOf Tryz.f78 6)=tribunalref02_Euclid.T6:=by kernel_rfl
theorem tribunalref02_Euclid.bits6:waitsOk tribunalref02_Euclid.T6.2 tribunalref02_Euclid.B6=true:=by kernel_rfl
def tribunalref02_Euclid.T7:Bool×List (List Nat×List Nat):=(true,[([],[]),([],[]),([1],[1]),([0,2,2],[0,2]),([],[]),([],[]),([4,5,3],[4,5]),([3,6,0,1,2,3],[3]),([6,7,0,1,2,3,4,5,6,7],[6])])
def tribunalref02_Euclid.B7:List Nat:=[0,0,2,7,0,0,63,127,255]
theorem tribunalref02_Euclid.tab7:rtab .any (opsOf Tryz.f78 7)=tribunalref02_Euclid.T7:=by kernel_rfl
theorem tribunalref02_Euclid.bits7:waitsOk tribunalref02_Euclid.T7.2 tribunalref02_Euclid.B7=true:=by kernel_rfl
theorem tribunalref02_Euclid.calls (k:Nat) (ae:Bool) (af:Option Addr) (ag:Nat) (ab:List Int) (aj:Bool) (P1_1_:Nat→Prop) (ac:Option Addr) (ad:Nat) (aa:List Int) (r1:Bool) (r2:List Int) (r3:Bool) (r4:List Int) (w:World) (an:Kd.C (Kd.int .u16) w af ab.length ab) (ao:ab.length≤ag) (ap:Kd.V (Kd.int .u16) 127 w w.heap.size (fun k_=>P1_1_ k_) (.slice ac aa.length ad) aa) (h:tribunalref02_Euclid.f k ae ab aj aa=some (r1,r2,r3,r4)) :
  Calls Tryz.prog 78 #[.agg #[.bool ae,.slice af ab.length ag],.agg #[.bool aj,.slice ac aa.length ad]] w fun e w'=>∃v1_ v3_:Value,e=.returned (.tuple #[.agg #[.bool r1,v1_],.agg #[.bool r3,v3_]])∧Kd.V (Kd.int .u16) 127 w' w.heap.size (fun k_=>(P1_1_ k_∨w.heap.size≤k_)) v1_ r2∧Kd.V (Kd.int .u16) 127 w' w.heap.size (fun k_=>(P1_1_ k_∨w.heap.size≤k_)) v3_ r4∧Below w.heap.size w w':=by
 have au:=Tryz.underlying81
 have K:=Kp.refl w
 replace K:=K.parV (Kd.V_mono (ok':=fun k=>k<w.heap.size) (Kd.V_mk (e:=127) (base:=0) ao (Kd.C_F (Kd.heap_int .u16) an)) (fun _ h=>h))
 clear an ao
 replace K:=K.parV (Kd.V_mono (ok':=fun k=>P1_1_ k) ap (fun _ h=>h))
 clear ap
 try simp only[klv]at K
 rw[tribunalref02_Euclid.f]at h
 replace h:=bindA h
 obtain⟨⟨z9,x10,z11,x12⟩,A13,h⟩:=h
 dsimp only at h
 by_cases c_0:z11=true
 ·subst c_0
  rw[if_pos rfl]at h
  replace h:=bindA h
  obtain⟨⟨z33,x34⟩,A35,h⟩:=h
  dsimp only at h
  by_cases c_1:aj=true
  ·subst c_1
   rw[if_pos rfl]at h
   go_enter Tryz.func78,Tryz.ntmps78
   go_wp2_with (first|((with_reducible refine gate_dst (N:=2) rfl ?_);refine kbe 2 #[.bool ae,.slice af ab.length ag] 81 ?_;intro g1 hg W2 hx hb;replace K:=K.u.box hg hx hb;clear hg hx hb)|((with_reducible refine gate_dst (N:=3) rfl ?_);refine kbe 3 #[.bool true,.slice ac aa.length ad] 81 ?_;intro g3 hg W4 hx hb;replace K:=K.u.box hg hx hb;clear hg hx hb)|((with_reducible refine gate_dst (N:=4) rfl ?_);refine kbe 4 #[.bool false,.slice none 0 0] 81 ?_;intro g5 hg W6 hx hb;replace K:=K.u.box hg hx hb;clear hg hx hb)|((with_reducible refine gate_dst (N:=5) rfl ?_);refine kbe 5 #[.bool false,.slice none 0 0] 81 ?_;intro g7 hg W8 hx hb;replace K:=K.u.box hg hx hb;clear hg hx hb;obtain⟨ua0,ub0⟩:=K.cell2 0 rfl;obtain⟨ua1,ub1⟩:=K.cell2 1 rfl)|((with_reducible refine gate_dst (N:=12) rfl ?_);clear ua0 ub0 ua1 ub1;refine kgl (some 12) rfl rfl Tryz.func85 #[.agg #[.bool ae,.slice af ab.length ag],.agg #[.bool true,.slice ac aa.length ad]] rfl ?_;refine(tribunalref02_Cut.calls _ ae _ _ ab true _ _ aa z9 x10 true x12 _ (K.C 0 rfl) (K.le 0 rfl) (K.C 1 rfl) (K.le 1 rfl) A13.out).mono ?_;rintro e W18 ⟨v14,v15,rfl,ah,ai,hb⟩;refine⟨_,rfl,?_⟩;have K1:=K.u.addF (fun _=>False) hb ah;replace K:=K.u.moreF (fun _=>False) K1 ai;clear K1;clear hb ah ai;obtain⟨P19,c20,e21⟩:=K.slice 2 rfl;subst e21;obtain⟨P22,c23,e24⟩:=K.slice 3 rfl;subst e24)|((with_reducible refine gate_dst (N:=6) rfl ?_);refine kbe 6 #[.bool false,.slice none 0 0] 81 ?_;intro g25 hg W26 hx hb;replace K:=K.u.box hg hx hb;clear hg hx hb)|((with_reducible refine gate_dst (N:=7) rfl ?_);refine kbe 7 #[.bool false,.slice none 0 0] 81 ?_;intro g27 hg W28 hx hb;replace K:=K.u.box hg hx hb;clear hg hx hb)|((with_reducible refine gate_store (t:=81) (p:=6) (v:=.tmp 13) rfl ?_);refine kst2 4 (.bool z9) (.slice P19 x10.length c20) K.u rfl ?q30 ?_;(case q30=>intro c0 c1 f0 f1;first|(go_simp;done)|(go_simp;rfl));clear K;intro W29 K;simp only[kls,klv]at K)|((with_reducible refine gate_store (t:=81) (p:=7) (v:=.tmp 14) rfl ?_);refine kst2 5 (.bool true) (.slice P22 x12.length c23) K.u rfl ?q32 ?_;(case q32=>intro c0 c1 f0 f1;first|(go_simp;done)|(go_simp;rfl));clear K;intro W31 K;simp only[kls,klv]at K;obtain⟨ua5,ub5⟩:=K.cell2 5 rfl)|((with_reducible refine gate_dst (N:=20) rfl ?_);clear ua5 ub5;refine kgl (some 20) rfl rfl Tryz.func81 #[.int .i64 1] rfl ?_;refine(tribunalref02_Small1.calls _ 1 z33 x34 _ A35.out).mono ?_;rintro e W38 ⟨v36,rfl,ak,hb⟩;refine⟨_,rfl,?_⟩;replace K:=K.u.addF (fun _=>False) hb ak;clear hb ak;obtain⟨P39,c40,e41⟩:=K.slice 4 rfl;subst e41)|((with_reducible refine gate_dst (N:=8) rfl ?_);refine kbe 8 #[.bool false,.slice none 0 0] 81 ?_;intro g42 hg W43 hx hb;replace K:=K.u.box hg hx hb;clear hg hx hb)|((with_reducible refine gate_store (t:=81) (p:=8) (v:=.tmp 20) rfl ?_);refine kst2 6 (.bool z33) (.slice P39 x34.length c40) K.u rfl ?q45 ?_;(case q45=>intro c0 c1 f0 f1;first|(go_simp;done)|(go_simp;rfl));clear K;intro W44 K;simp only[kls,klv]at K;obtain⟨ua1,ub1⟩:=K.cell2 1 rfl))
   clear ua1 ub1
   replace h:=bindA h
   obtain⟨⟨z46,x47⟩,A48,h⟩:=h
   dsimp only at h
   replace h:=bindA h
   obtain⟨⟨z49,x50⟩,A51,h⟩:=h
   dsimp only at h
   replace h:=bindA h
   obtain⟨⟨z52,x53⟩,A54,h⟩:=h
   dsimp only at h
   obtain⟨Bs,Vs,Os,hBs,hVs,hOs,K⟩:=K.abs
   have HS:Aside0 (∀l m o W,Kp w (Bs++l) m o W→W.cell? ⟨g25,0,none⟩=some (.bool z9)∧W.cell? ⟨g25,1,none⟩=some (.slice P19 x10.length c20)∧W.cell? ⟨g42,0,none⟩=some (.bool z33)∧W.cell? ⟨g42,1,none⟩=some (.slice P39 x34.length c40)∧W.cell? ⟨g27,0,none⟩=some (.bool true)∧W.cell? ⟨g27,1,none⟩=some (.slice P22 x12.length c23)∧W.cell? ⟨g3,0,none⟩=some (.bool true)∧W.cell? ⟨g3,1,none⟩=some (.slice ac aa.length ad)):=⟨fun l m o W K=>by rw[hBs.out]at K;exact⟨K.cell 4 rfl 0 rfl,K.cell 4 rfl 1 rfl,K.cell 6 rfl 0 rfl,K.cell 6 rfl 1 rfl,K.cell 5 rfl 0 rfl,K.cell 5 rfl 1 rfl,K.cell 1 rfl 0 rfl,K.cell 1 rfl 1 rfl⟩⟩
   refine kpstart (n:=9) (ds:=[]) (S:=fun W=>W.cell? ⟨g25,0,none⟩=some (.bool z9)∧W.cell? ⟨g25,1,none⟩=some (.slice P19 x10.length c20)∧W.cell? ⟨g42,0,none⟩=some (.bool z33)∧W.cell? ⟨g42,1,none⟩=some (.slice P39 x34.length c40)∧W.cell? ⟨g27,0,none⟩=some (.bool true)∧W.cell? ⟨g27,1,none⟩=some (.slice P22 x12.length c23)∧W.cell? ⟨g3,0,none⟩=some (.bool true)∧W.cell? ⟨g3,1,none⟩=some (.slice ac aa.length ad)) #[false,false,false,false,false,false,false,false,false] Y0 rfl rfl K (HS.out [] _ _) (fun W58 K hH=>?_)
   refine with_tabW tribunalref02_Euclid.tab6 tribunalref02_Euclid.bits6 (fun HT_ HW_=>?_)
   refine take_ (i:=0) (N:=some 23) (v:=?_) (a':=?_) #[true,false,false,false,false,false,false,false,false] rfl rfl (take_ofW HT_.out HW_.out Y0) (fun _ _ _ h=>h) (Or.inl ⟨F0,?_⟩) hH ?_ ?_
   rotate_left
   ·rintro w' ⟨s0,s1,s2,s3,s4,s5,s6,s7⟩
    go_simp
    with_reducible rfl
   rotate_left
   ·simp only[Act.put,kss,i64_w,i32_w]
    rfl
   refine take_ (i:=1) (N:=some 24) (v:=?_) (a':=?_) #[true,true,false,false,false,false,false,false,false] rfl rfl (take_ofW HT_.out HW_.out Y0) (fun _ _ _ h=>h) (Or.inl ⟨F0,?_⟩) hH ?_ ?_
   rotate_left
   ·rintro w' ⟨s0,s1,s2,s3,s4,s5,s6,s7⟩
    go_simp
    with_reducible rfl
   rotate_left
   ·simp only[Act.put,kss,i64_w,i32_w]
    rfl
   refine take_ (i:=3) (N:=some 26) (v:=?_) (a':=?_) #[true,true,false,true,false,false,false,false,false] rfl rfl (take_ofW HT_.out HW_.out Y0) (fun _ _ _ h=>h) (Or.inl ⟨F0,?_⟩) hH ?_ ?_
   rotate_left
   ·rintro w' ⟨s0,s1,s2,s3,s4,s5,s6,s7⟩
    go_simp
    with_reducible rfl
   rotate_left
   ·simp only[Act.put,kss,i64_w,i32_w]
    rfl
   refine take_ (i:=4) (N:=some 27) (v:=?_) (a':=?_) #[true,true,false,true,true,false,false,false,false] rfl rfl (take_ofW HT_.out HW_.out Y0) (fun _ _ _ h=>h) (Or.inl ⟨F0,?_⟩) hH ?_ ?_
   rotate_left
   ·rintro w' ⟨s0,s1,s2,s3,s4,s5,s6,s7⟩
    go_simp
    with_reducible rfl
   rotate_left
   ·simp only[Act.put,kss,i64_w,i32_w]
    rfl
   refine one_ (i:=2) (N:=some 25) #[true,true,true,true,true,false,false,false,false] rfl rfl (one_of HT_.out Y0) X0 (fun Kc hK=>?_)
   refine kgo Tryz.func82 #[.agg #[.bool z9,.slice P19 x10.length c20],.agg #[.bool z33,.slice P39 x34.length c40]] F0 rfl rfl ?_
   refine(tribunalref02_Plus.calls _ z9 _ _ x10 z33 _ _ x34 z46 x47 _ (K.C 2 X1) (K.le 2 X1) (K.C 4 X1) (K.le 4 X1) A48.out).mono ?_
   rintro e W' ⟨v55,rfl,al,hb⟩
   replace K:=K.addFI 0 (fun _=>False) hb al
   clear hb al
   refine⟨_,rfl,hK.out _ _ (HS.out _ _ _ _ K) fun hH=>?_⟩
   clear hK Kc
   refine norm_ (a':=?_) ?_ ?_
   rotate_left
   ·show Act.put _ (some 25) _=_
    simp only[Act.put,kss,i64_w,i32_w]
    rfl
   refine one_ (i:=5) (N:=some 28) #[true,true,true,true,true,true,false,false,false] rfl rfl (one_of HT_.out Y0) X0 (fun Kc hK=>?_)
   refine kgo Tryz.func80 #[.agg #[.bool true,.slice ac aa.length ad]] F0 rfl rfl ?_
   refine(tribunalref02_Minus.calls _ true _ _ _ aa z49 x50 _ (K.V 1 X1) A51.out).mono ?_
   rintro e W' ⟨v56,rfl,aq,hb⟩
   replace K:=K.addI 1 (fun k=>P1_1_ k) hb aq (fun _ h=>h)
   clear hb aq
   refine⟨_,rfl,hK.out _ _ (HS.out _ _ _ _ K) fun hH=>?_⟩
   clear hK Kc
   refine norm_ (a':=?_) ?_ ?_
   rotate_left
   ·show Act.put _ (some 28) _=_
    simp only[Act.put,kss,i64_w,i32_w]
    rfl
   refine one_ (i:=6) (N:=some 29) #[true,true,true,true,true,true,true,false,false] rfl rfl (one_of HT_.out Y0) X0 (fun Kc hK=>?_)
   obtain⟨P61,c62,e63⟩:=K.slice 6 X1
   subst e63
   refine kgo Tryz.func82 #[.agg #[.bool true,.slice P22 x12.length c23],.agg #[.bool z49,.slice P61 x50.length c62]] F0 rfl rfl ?_
   refine(tribunalref02_Plus.calls _ true _ _ x12 z49 _ _ x50 z52 x53 _ (K.C 3 X1) (K.le 3 X1) (K.C 6 X1) (K.le 6 X1) A54.out).mono ?_
   rintro e W' ⟨v57,rfl,am,hb⟩
   replace K:=K.addFI 2 (fun _=>False) hb am
   clear hb am
   refine⟨_,rfl,hK.out _ _ (HS.out _ _ _ _ K) fun hH=>?_⟩
   clear hK Kc
   refine norm_ (a':=?_) ?_ ?_
   rotate_left
   ·show Act.put _ (some 29) _=_
    simp only[Act.put,kss,i64_w,i32_w]
    rfl
   obtain⟨P65,c66,e67⟩:=K.slice 5 X1
   subst e67
   obtain⟨P68,c69,e70⟩:=K.slice 7 X1
   subst e70
   rw[hBs.out,hVs.out,hOs.out]at K
   simp only[kls,klv]at K
   clear hBs hVs hOs HS hH
   refine kone2 (i:=7) #[true,true,true,true,true,true,true,true,false] 2 (.bool z46) (.slice P65 x47.length c66) K rfl rfl rfl (one_of HT_.out Y0) X0 F0 ?_ (fun W K=>⟨K.cell 4 rfl 0 rfl,K.cell 4 rfl 1 rfl,K.cell 6 rfl 0 rfl,K.cell 6 rfl 1 rfl,K.cell 5 rfl 0 rfl,K.cell 5 rfl 1 rfl,K.cell 1 rfl 0 rfl,K.cell 1 rfl 1 rfl⟩) ?_
   ·intro c0 c1 f0 f1
    first|(go_simp;done)|(go_simp;rfl)
   clear K
   intro W71 K
   simp only[kls,klv]at K
   refine kone2 (i:=8) #[true,true,true,true,true,true,true,true,true] 3 (.bool z52) (.slice P68 x53.length c69) K rfl rfl rfl (one_of HT_.out Y0) X0 F0 ?_ (fun W K=>⟨K.cell 4 rfl 0 rfl,K.cell 4 rfl 1 rfl,K.cell 6 rfl 0 rfl,K.cell 6 rfl 1 rfl,K.cell 5 rfl 0 rfl,K.cell 5 rfl 1 rfl,K.cell 1 rfl 0 rfl,K.cell 1 rfl 1 rfl⟩) ?_
   ·intro c0 c1 f0 f1
    first|(go_simp;done)|(go_simp;rfl)
   clear K
   intro W72 K
   simp only[kls,klv]at K
   refine done_ (done_of HT_.out Y0) ?_
   clear HT_ HW_
   simp only[Option.some.injEq,Prod.mk.injEq]at h
   obtain⟨rfl,rfl,rfl,rfl⟩:=h
   go_wp2
   refine bodyPost_ret (results_list (rs:=[.cell 4 81,.cell 5 81]) rfl Z1 (.cell g5 81 #[.bool z46,.slice P65 x47.length c66] (0,0) _ rfl (K.u.heap 2 rfl) Tryz.underlying81 rfl Y0 (.cell g7 81 #[.bool z52,.slice P68 x53.length c69] (0,0) _ rfl (K.u.heap 3 rfl) Tryz.underlying81 rfl Y0 .nil))) rfl ?_
   exact⟨_,_,rfl,K.u.hand 5 rfl (fun k_ h=>h.elim (fun h=>h.elim) .inr),K.u.hand 7 rfl (fun k_ h=>h.elim (fun h=>h.elim) .inr),K.u.below⟩
  replace c_1:=Bool.eq_false_iff.mpr c_1
  subst c_1
  rw[if_neg X0]at h
  go_enter Tryz.func78,Tryz.ntmps78
  go_wp2_with (first|((with_reducible refine gate_dst (N:=2) rfl ?_);refine kbe 2 #[.bool ae,.slice af ab.length ag] 81 ?_;intro g1 hg W2 hx hb;replace K:=K.u.box hg hx hb;clear hg hx hb)|((with_reducible refine gate_dst (N:=3) rfl ?_);refine kbe 3 #[.bool false,.slice ac aa.length ad] 81 ?_;intro g3 hg W4 hx hb;replace K:=K.u.box hg hx hb;clear hg hx hb)|((with_reducible refine gate_dst (N:=4) rfl ?_);refine kbe 4 #[.bool false,.slice none 0 0] 81 ?_;intro g5 hg W6 hx hb;replace K:=K.u.box hg hx hb;clear hg hx hb)|((with_reducible refine gate_dst (N:=5) rfl ?_);refine kbe 5 #[.bool false,.slice none 0 0] 81 ?_;intro g7 hg W8 hx hb;replace K:=K.u.box hg hx hb;clear hg hx hb;obtain⟨ua0,ub0⟩:=K.cell2 0 rfl;obtain⟨ua1,ub1⟩:=K.cell2 1 rfl)|((with_reducible refine gate_dst (N:=12) rfl ?_);clear ua0 ub0 ua1 ub1;refine kgl (some 12) rfl rfl Tryz.func85 #[.agg #[.bool ae,.slice af ab.length ag],.agg #[.bool false,.slice ac aa.length ad]] rfl ?_;refine(tribunalref02_Cut.calls _ ae _ _ ab false _ _ aa z9 x10 true x12 _ (K.C 0 rfl) (K.le 0 rfl) (K.C 1 rfl) (K.le 1 rfl) A13.out).mono ?_;rintro e W18 ⟨v14,v15,rfl,ah,ai,hb⟩;refine⟨_,rfl,?_⟩;have K1:=K.u.addF (fun _=>False) hb ah;replace K:=K.u.moreF (fun _=>False) K1 ai;clear K1;clear hb ah ai;obtain⟨P19,c20,e21⟩:=K.slice 2 rfl;subst e21;obtain⟨P22,c23,e24⟩:=K.slice 3 rfl;subst e24)|((with_reducible refine gate_dst (N:=6) rfl ?_);refine kbe 6 #[.bool false,.slice none 0 0] 81 ?_;intro g25 hg W26 hx hb;replace K:=K.u.box hg hx hb;clear hg hx hb)|((with_reducible refine gate_dst (N:=7) rfl ?_);refine kbe 7 #[.bool false,.slice none 0 0] 81 ?_;intro g27 hg W28 hx hb;replace K:=K.u.box hg hx hb;clear hg hx hb)|((with_reducible refine gate_store (t:=81) (p:=6) (v:=.tmp 13) rfl ?_);refine kst2 4 (.bool z9) (.slice P19 x10.length c20) K.u rfl ?q30 ?_;(case q30=>intro c0 c1 f0 f1;first|(go_simp;done)|(go_simp;rfl));clear K;intro W29 K;simp only[kls,klv]at K)|((with_reducible refine gate_store (t:=81) (p:=7) (v:=.tmp 14) rfl ?_);refine kst2 5 (.bool true) (.slice P22 x12.length c23) K.u rfl ?q32 ?_;(case q32=>intro c0 c1 f0 f1;first|(go_simp;done)|(go_simp;rfl));clear K;intro W31 K;simp only[kls,klv]at K;obtain⟨ua5,ub5⟩:=K.cell2 5 rfl)|((with_reducible refine gate_dst (N:=20) rfl ?_);clear ua5 ub5;refine kgl (some 20) rfl rfl Tryz.func81 #[.int .i64 1] rfl ?_;refine(tribunalref02_Small1.calls _ 1 z33 x34 _ A35.out).mono ?_;rintro e W38 ⟨v36,rfl,ak,hb⟩;refine⟨_,rfl,?_⟩;replace K:=K.u.addF (fun _=>False) hb ak;clear hb ak;obtain⟨P39,c40,e41⟩:=K.slice 4 rfl;subst e41)|((with_reducible refine gate_dst (N:=8) rfl ?_);refine kbe 8 #[.bool false,.slice none 0 0] 81 ?_;intro g42 hg W43 hx hb;replace K:=K.u.box hg hx hb;clear hg hx hb)|((with_reducible refine gate_store (t:=81) (p:=8) (v:=.tmp 20) rfl ?_);refine kst2 6 (.bool z33) (.slice P39 x34.length c40) K.u rfl ?q45 ?_;(case q45=>intro c0 c1 f0 f1;first|(go_simp;done)|(go_simp;rfl));clear K;intro W44 K;simp only[kls,klv]at K;obtain⟨ua1,ub1⟩:=K.cell2 1 rfl))
  clear ua1 ub1
  replace h:=bindA h
  obtain⟨⟨z46,x47⟩,A48,h⟩:=h
  dsimp only at h
  replace h:=bindA h
  obtain⟨⟨z49,x50⟩,A51,h⟩:=h
  dsimp only at h
  replace h:=bindA h
  obtain⟨⟨z52,x53⟩,A54,h⟩:=h
  dsimp only at h
  obtain⟨Bs,Vs,Os,hBs,hVs,hOs,K⟩:=K.abs
  have HS:Aside0 (∀l m o W,Kp w (Bs++l) m o W→W.cell? ⟨g25,0,none⟩=some (.bool z9)∧W.cell? ⟨g25,1,none⟩=some (.slice P19 x10.length c20)∧W.cell? ⟨g42,0,none⟩=some (.bool z33)∧W.cell? ⟨g42,1,none⟩=some (.slice P39 x34.length c40)∧W.cell? ⟨g27,0,none⟩=some (.bool true)∧W.cell? ⟨g27,1,none⟩=some (.slice P22 x12.length c23)∧W.cell? ⟨g3,0,none⟩=some (.bool false)∧W.cell? ⟨g3,1,none⟩=some (.slice ac aa.length ad)):=⟨fun l m o W K=>by rw[hBs.out]at K;exact⟨K.cell 4 rfl 0 rfl,K.cell 4 rfl 1 rfl,K.cell 6 rfl 0 rfl,K.cell 6 rfl 1 rfl,K.cell 5 rfl 0 rfl,K.cell 5 rfl 1 rfl,K.cell 1 rfl 0 rfl,K.cell 1 rfl 1 rfl⟩⟩
  refine kpstart (n:=9) (ds:=[]) (S:=fun W=>W.cell? ⟨g25,0,none⟩=some (.bool z9)∧W.cell? ⟨g25,1,none⟩=some (.slice P19 x10.length c20)∧W.cell? ⟨g42,0,none⟩=some (.bool z33)∧W.cell? ⟨g42,1,none⟩=some (.slice P39 x34.length c40)∧W.cell? ⟨g27,0,none⟩=some (.bool true)∧W.cell? ⟨g27,1,none⟩=some (.slice P22 x12.length c23)∧W.cell? ⟨g3,0,none⟩=some (.bool false)∧W.cell? ⟨g3,1,none⟩=some (.slice ac aa.length ad)) #[false,false,false,false,false,false,false,false,false] Y0 rfl rfl K (HS.out [] _ _) (fun W58 K hH=>?_)
  refine with_tabW tribunalref02_Euclid.tab7 tribunalref02_Euclid.bits7 (fun HT_ HW_=>?_)
  refine take_ (i:=0) (N:=some 30) (v:=?_) (a':=?_) #[true,false,false,false,false,false,false,false,false] rfl rfl (take_ofW HT_.out HW_.out Y0) (fun _ _ _ h=>h) (Or.inl ⟨F0,?_⟩) hH ?_ ?_
  rotate_left
  ·rintro w' ⟨s0,s1,s2,s3,s4,s5,s6,s7⟩
   go_simp
   with_reducible rfl
  rotate_left
  ·simp only[Act.put,kss,i64_w,i32_w]
   rfl
  refine take_ (i:=1) (N:=some 31) (v:=?_) (a':=?_) #[true,true,false,false,false,false,false,false,false] rfl rfl (take_ofW HT_.out HW_.out Y0) (fun _ _ _ h=>h) (Or.inl ⟨F0,?_⟩) hH ?_ ?_
  rotate_left
  ·rintro w' ⟨s0,s1,s2,s3,s4,s5,s6,s7⟩
   go_simp
   with_reducible rfl
  rotate_left
  ·simp only[Act.put,kss,i64_w,i32_w]
   rfl
  refine take_ (i:=4) (N:=some 34) (v:=?_) (a':=?_) #[true,true,false,false,true,false,false,false,false] rfl rfl (take_ofW HT_.out HW_.out Y0) (fun _ _ _ h=>h) (Or.inl ⟨F0,?_⟩) hH ?_ ?_
  rotate_left
  ·rintro w' ⟨s0,s1,s2,s3,s4,s5,s6,s7⟩
   go_simp
   with_reducible rfl
  rotate_left
  ·simp only[Act.put,kss,i64_w,i32_w]
   rfl
  refine take_ (i:=5) (N:=some 35) (v:=?_) (a':=?_) #[true,true,false,false,true,true,false,false,false] rfl rfl (take_ofW HT_.out HW_.out Y0) (fun _ _ _ h=>h) (Or.inl ⟨F0,?_⟩) hH ?_ ?_
  rotate_left
  ·rintro w' ⟨s0,s1,s2,s3,s4,s5,s6,s7⟩
   go_simp
   with_reducible rfl
  rotate_left
  ·simp only[Act.put,kss,i64_w,i32_w]
   rfl
  refine one_ (i:=2) (N:=some 32) #[true,true,true,false,true,true,false,false,false] rfl rfl (one_of HT_.out Y0) X0 (fun Kc hK=>?_)
  refine kgo Tryz.func80 #[.agg #[.bool z33,.slice P39 x34.length c40]] F0 rfl rfl ?_
  refine(tribunalref02_Minus.calls _ z33 _ _ _ x34 z46 x47 _ (K.V 4 X1) A48.out).mono ?_
  rintro e W' ⟨v55,rfl,al,hb⟩
  replace K:=K.addI 0 (fun _=>False) hb al (fun _ h=>h)
  clear hb al
  refine⟨_,rfl,hK.out _ _ (HS.out _ _ _ _ K) fun hH=>?_⟩
  clear hK Kc
  refine norm_ (a':=?_) ?_ ?_
  rotate_left
  ·show Act.put _ (some 32) _=_
   simp only[Act.put,kss,i64_w,i32_w]
   rfl
  refine one_ (i:=3) (N:=some 33) #[true,true,true,true,true,true,false,false,false] rfl rfl (one_of HT_.out Y0) X0 (fun Kc hK=>?_)
  obtain⟨P60,c61,e62⟩:=K.slice 5 X1
  subst e62
  refine kgo Tryz.func82 #[.agg #[.bool z9,.slice P19 x10.length c20],.agg #[.bool z46,.slice P60 x47.length c61]] F0 rfl rfl ?_
  refine(tribunalref02_Plus.calls _ z9 _ _ x10 z46 _ _ x47 z49 x50 _ (K.C 2 X1) (K.le 2 X1) (K.C 5 X1) (K.le 5 X1) A51.out).mono ?_
  rintro e W' ⟨v56,rfl,ar,hb⟩
  replace K:=K.addFI 1 (fun _=>False) hb ar
  clear hb ar
  refine⟨_,rfl,hK.out _ _ (HS.out _ _ _ _ K) fun hH=>?_⟩
  clear hK Kc
  refine norm_ (a':=?_) ?_ ?_
  rotate_left
  ·show Act.put _ (some 33) _=_
   simp only[Act.put,kss,i64_w,i32_w]
   rfl
  refine one_ (i:=6) (N:=some 36) #[true,true,true,true,true,true,true,false,false] rfl rfl (one_of HT_.out Y0) X0 (fun Kc hK=>?_)
  refine kgo Tryz.func82 #[.agg #[.bool true,.slice P22 x12.length c23],.agg #[.bool false,.slice ac aa.length ad]] F0 rfl rfl ?_
  refine(tribunalref02_Plus.calls _ true _ _ x12 false _ _ aa z52 x53 _ (K.C 3 X1) (K.le 3 X1) (K.C 1 X1) (K.le 1 X1) A54.out).mono ?_
  rintro e W' ⟨v57,rfl,am,hb⟩
  replace K:=K.addFI 2 (fun _=>False) hb am
  clear hb am
  refine⟨_,rfl,hK.out _ _ (HS.out _ _ _ _ K) fun hH=>?_⟩
  clear hK Kc
  refine norm_ (a':=?_) ?_ ?_
  rotate_left
  ·show Act.put _ (some 36) _=_
   simp only[Act.put,kss,i64_w,i32_w]
   rfl
  obtain⟨P65,c66,e67⟩:=K.slice 6 X1
  subst e67
  obtain⟨P68,c69,e70⟩:=K.slice 7 X1
  subst e70
  rw[hBs.out,hVs.out,hOs.out]at K
  simp only[kls,klv]at K
  clear hBs hVs hOs HS hH
  refine kone2 (i:=7) #[true,true,true,true,true,true,true,true,false] 2 (.bool z49) (.slice P65 x50.length c66) K rfl rfl rfl (one_of HT_.out Y0) X0 F0 ?_ (fun W K=>⟨K.cell 4 rfl 0 rfl,K.cell 4 rfl 1 rfl,K.cell 6 rfl 0 rfl,K.cell 6 rfl 1 rfl,K.cell 5 rfl 0 rfl,K.cell 5 rfl 1 rfl,K.cell 1 rfl 0 rfl,K.cell 1 rfl 1 rfl⟩) ?_
  ·intro c0 c1 f0 f1
   first|(go_simp;done)|(go_simp;rfl)
  clear K
  intro W71 K
  simp only[kls,klv]at K
  refine kone2 (i:=8) #[true,true,true,true,true,true,true,true,true] 3 (.bool z52) (.slice P68 x53.length c69) K rfl rfl rfl (one_of HT_.out Y0) X0 F0 ?_ (fun W K=>⟨K.cell 4 rfl 0 rfl,K.cell 4 rfl 1 rfl,K.cell 6 rfl 0 rfl,K.cell 6 rfl 1 rfl,K.cell 5 rfl 0 rfl,K.cell 5 rfl 1 rfl,K.cell 1 rfl 0 rfl,K.cell 1 rfl 1 rfl⟩) ?_
  ·intro c0 c1 f0 f1
   first|(go_simp;done)|(go_simp;rfl)
  clear K
  intro W72 K
  simp only[kls,klv]at K
  refine done_ (done_of HT_.out Y0) ?_
  clear HT_ HW_
  simp only[Option.some.injEq,Prod.mk.injEq]at h
  obtain⟨rfl,rfl,rfl,rfl⟩:=h
  go_wp2
  refine bodyPost_ret (results_list (rs:=[.cell 4 81,.cell 5 81]) rfl Z1 (.cell g5 81 #[.bool z49,.slice P65 x50.length c66] (0,0) _ rfl (K.u.heap 2 rfl) Tryz.underlying81 rfl Y0 (.cell g7 81 #[.bool z52,.slice P68 x53.length c69] (0,0) _ rfl (K.u.heap 3 rfl) Tryz.underlying81 rfl Y0 .nil))) rfl ?_
  exact⟨_,_,rfl,K.u.hand 6 rfl (fun k_ h=>h.elim (fun h=>h.elim) .inr),K.u.hand 7 rfl (fun k_ h=>h.elim (fun h=>h.elim) .inr),K.u.below⟩
 replace c_0:=Bool.eq_false_iff.mpr c_0
 subst c_0
 rw[if_neg X0]at h
 go_enter Tryz.func78,Tryz.ntmps78
 go_wp2_with (first|((with_reducible refine gate_dst (N:=2) rfl ?_);refine kbe 2 #[.bool ae,.slice af ab.length ag] 81 ?_;intro g1 hg W2 hx hb;replace K:=K.u.box hg hx hb;clear hg hx hb)|((with_reducible refine gate_dst (N:=3) rfl ?_);refine kbe 3 #[.bool aj,.slice ac aa.length ad] 81 ?_;intro g3 hg W4 hx hb;replace K:=K.u.box hg hx hb;clear hg hx hb)|((with_reducible refine gate_dst (N:=4) rfl ?_);refine kbe 4 #[.bool false,.slice none 0 0] 81 ?_;intro g5 hg W6 hx hb;replace K:=K.u.box hg hx hb;clear hg hx hb)|((with_reducible refine gate_dst (N:=5) rfl ?_);refine kbe 5 #[.bool false,.slice none 0 0] 81 ?_;intro g7 hg W8 hx hb;replace K:=K.u.box hg hx hb;clear hg hx hb;obtain⟨ua0,ub0⟩:=K.cell2 0 rfl;obtain⟨ua1,ub1⟩:=K.cell2 1 rfl)|((with_reducible refine gate_dst (N:=12) rfl ?_);clear ua0 ub0 ua1 ub1;refine kgl (some 12) rfl rfl Tryz.func85 #[.agg #[.bool ae,.slice af ab.length ag],.agg #[.bool aj,.slice ac aa.length ad]] rfl ?_;refine(tribunalref02_Cut.calls _ ae _ _ ab aj _ _ aa z9 x10 false x12 _ (K.C 0 rfl) (K.le 0 rfl) (K.C 1 rfl) (K.le 1 rfl) A13.out).mono ?_;rintro e W18 ⟨v14,v15,rfl,ah,ai,hb⟩;refine⟨_,rfl,?_⟩;have K1:=K.u.addF (fun _=>False) hb ah;replace K:=K.u.moreF (fun _=>False) K1 ai;clear K1;clear hb ah ai;obtain⟨P19,c20,e21⟩:=K.slice 2 rfl;subst e21;obtain⟨P22,c23,e24⟩:=K.slice 3 rfl;subst e24)|((with_reducible refine gate_dst (N:=6) rfl ?_);refine kbe 6 #[.bool false,.slice none 0 0] 81 ?_;intro g25 hg W26 hx hb;replace K:=K.u.box hg hx hb;clear hg hx hb)|((with_reducible refine gate_dst (N:=7) rfl ?_);refine kbe 7 #[.bool false,.slice none 0 0] 81 ?_;intro g27 hg W28 hx hb;replace K:=K.u.box hg hx hb;clear hg hx hb)|((with_reducible refine gate_store (t:=81) (p:=6) (v:=.tmp 13) rfl ?_);refine kst2 4 (.bool z9) (.slice P19 x10.length c20) K.u rfl ?q30 ?_;(case q30=>intro c0 c1 f0 f1;first|(go_simp;done)|(go_simp;rfl));clear K;intro W29 K;simp only[kls,klv]at K)|((with_reducible refine gate_store (t:=81) (p:=7) (v:=.tmp 14) rfl ?_);refine kst2 5 (.bool false) (.slice P22 x12.length c23) K.u rfl ?q32 ?_;(case q32=>intro c0 c1 f0 f1;first|(go_simp;done)|(go_simp;rfl));clear K;intro W31 K;simp only[kls,klv]at K;obtain⟨ua5,ub5⟩:=K.cell2 5 rfl))
 clear ua5 ub5
 obtain⟨Bs,Vs,Os,hBs,hVs,hOs,K⟩:=K.abs
 have HS:Aside0 (∀l m o W,Kp w (Bs++l) m o W→W.cell? ⟨g25,0,none⟩=some (.bool z9)∧W.cell? ⟨g25,1,none⟩=some (.slice P19 x10.length c20)∧W.cell? ⟨g27,0,none⟩=some (.bool false)∧W.cell? ⟨g27,1,none⟩=some (.slice P22 x12.length c23)):=⟨fun l m o W K=>by rw[hBs.out]at K;exact⟨K.cell 4 rfl 0 rfl,K.cell 4 rfl 1 rfl,K.cell 5 rfl 0 rfl,K.cell 5 rfl 1 rfl⟩⟩
 refine kpstart (n:=4) (ds:=[]) (S:=fun W=>W.cell? ⟨g25,0,none⟩=some (.bool z9)∧W.cell? ⟨g25,1,none⟩=some (.slice P19 x10.length c20)∧W.cell? ⟨g27,0,none⟩=some (.bool false)∧W.cell? ⟨g27,1,none⟩=some (.slice P22 x12.length c23)) #[false,false,false,false] Y0 rfl rfl K (HS.out [] _ _) (fun W33 K hH=>?_)
 refine take_ (i:=0) (N:=some 18) (v:=?_) (a':=?_) #[true,false,false,false] rfl rfl Y0 (fun _ _ _ h=>h) (Or.inl ⟨F0,?_⟩) hH ?_ ?_
 rotate_left
 ·rintro w' ⟨s0,s1,s2,s3⟩
  go_simp
  with_reducible rfl
 rotate_left
 ·simp only[Act.put,kss,i64_w,i32_w]
  rfl
 refine take_ (i:=1) (N:=some 19) (v:=?_) (a':=?_) #[true,true,false,false] rfl rfl Y0 (fun _ _ _ h=>h) (Or.inl ⟨F0,?_⟩) hH ?_ ?_
 rotate_left
 ·rintro w' ⟨s0,s1,s2,s3⟩
  go_simp
  with_reducible rfl
 rotate_left
 ·simp only[Act.put,kss,i64_w,i32_w]
  rfl
 rw[hBs.out,hVs.out,hOs.out]at K
 simp only[kls,klv]at K
 clear hBs hVs hOs HS hH
 refine kone2 (i:=2) #[true,true,true,false] 2 (.bool z9) (.slice P19 x10.length c20) K rfl rfl rfl Y0 X0 F0 ?_ (fun W K=>⟨K.cell 4 rfl 0 rfl,K.cell 4 rfl 1 rfl,K.cell 5 rfl 0 rfl,K.cell 5 rfl 1 rfl⟩) ?_
 ·intro c0 c1 f0 f1
  first|(go_simp;done)|(go_simp;rfl)
 clear K
 intro W34 K
 simp only[kls,klv]at K
 refine kone2 (i:=3) #[true,true,true,true] 3 (.bool false) (.slice P22 x12.length c23) K rfl rfl rfl Y0 X0 F0 ?_ (fun W K=>⟨K.cell 4 rfl 0 rfl,K.cell 4 rfl 1 rfl,K.cell 5 rfl 0 rfl,K.cell 5 rfl 1 rfl⟩) ?_
 ·intro c0 c1 f0 f1
  first|(go_simp;done)|(go_simp;rfl)
 clear K
 intro W35 K
 simp only[kls,klv]at K
 refine done_ Y0 ?_
 simp only[Option.some.injEq,Prod.mk.injEq]at h
 obtain⟨rfl,rfl,rfl,rfl⟩:=h
 go_wp2
 refine bodyPost_ret (results_list (rs:=[.cell 4 81,.cell 5 81]) rfl Z1 (.cell g5 81 #[.bool z9,.slice P19 x10.length c20] (0,0) _ rfl (K.u.heap 2 rfl) Tryz.underlying81 rfl Y0 (.cell g7 81 #[.bool false,.slice P22 x12.length c23] (0,0) _ rfl (K.u.heap 3 rfl) Tryz.underlying81 rfl Y0 .nil))) rfl ?_
 exact⟨_,_,rfl,K.u.hand 2 rfl (fun k_ h=>h.elim (fun h=>h.elim) .inr),K.u.hand 3 rfl (fun k_ h=>h.elim (fun h=>h.elim) .inr),K.u.below⟩
end Go.Proofs.YtncomlmhagaajaaGreat.PBo
