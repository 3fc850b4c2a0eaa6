/- Part 4 of what the card rests on. -/
import Derived.Test.YtncomlmhagaajaaGreatDoorCp3
set_option maxHeartbeats 8000000
set_option maxRecDepth 100000
set_option linter.unusedVariables false
set_option linter.unusedSimpArgs false
namespace Go.Proofs.YtncomlmhagaajaaGreatDoor.PRp
open Go.RowKit Go.Proofs.YtncomlmhagaajaaGreatDoorW.PrintWords Go.Proofs.YtncomlmhagaajaaGreatDoorW.PrintLast Go.Proofs.YtncomlmhagaajaaGreatDoorW.PrintMore
open Go.Proofs.YtncomlmhagaajaaGreatDoor.Mine
attribute [local go_sem] max2_int min2_int max_two min_two max_three min_three max_four min_four
mutual
def whole_Parse.j0:Nat→ByteArray→Bool→Bool→Option (Bool×List Int×Int)
 | 0,_,_,_=>none
 | k+1,x4,x5,x22=>if x22=true then(some (false,([]:List Int),13)) else((strings_TrimLeftG.f x4 (⟨#[48]⟩:ByteArray)).bind fun t826=>(whole_Parse.l0 k t826 x5 ([]:List Int)))
def whole_Parse.l0:Nat→ByteArray→Bool→List Int→Option (Bool×List Int×Int)
 | 0,_,_,_=>none
 | k+1,x4,x5,x6=>if x4.toList=([]:List UInt8) then((whole_signed.f x6 x5).bind fun bt827=>((whole_number_told.f bt827.1 bt827.2).bind fun bt831=>(some (bt831.1,bt831.2.1,bt831.2.2)))) else(if 0≤(mn 18 (x4.size:Int)) then(if(mn 18 (x4.size:Int))≤(x4.size:Int) then((strconv_ParseUintG.f (x4.extract 0 ((mn 18 (x4.size:Int)):Int).toNat) 10 64).bind fun bt836=>(whole_Parse.l1 k x4 x5 x6 (mn 18 (x4.size:Int)) bt836.1 1 (mn 18 (x4.size:Int)) 0)) else(none)) else(none))
def whole_Parse.l1:Nat→ByteArray→Bool→List Int→Int→Int→Int→Int→Int→Option (Bool×List Int×Int)
 | 0,_,_,_,_,_,_,_,_=>none
 | k+1,x4,x5,x6,x7,x8,x10,x38,x39=>if x39<x38 then(whole_Parse.l1 k x4 x5 x6 x7 x8 (IntKind.u64.wrap (x10*10)) x38 (wrap64 (x39+1))) else((whole_amount_times.f k x6 (([x10]:List Int))).bind fun t841=>((whole_trimmed.f k (([x8]:List Int))).bind fun t847=>((whole_amount_plus.f k t841 t847).bind fun t850=>(if(t850.length:Int)>4096 then(some (false,([]:List Int),5)) else(if 0≤x7 then(if x7≤(x4.size:Int) then(whole_Parse.l0 k (x4.extract (x7:Int).toNat x4.size) x5 t850) else(none)) else(none))))))
end
def whole_Parse.f (k:Nat) (a0:ByteArray):Option (Bool×List Int×Int):=(strings_CutPrefixG.f a0 (⟨#[45]⟩:ByteArray)).bind fun bt823=>(if bt823.1.toList=([]:List UInt8) then(whole_Parse.j0 k bt823.1 bt823.2 true) else((strings_TrimG.f bt823.1 (⟨#[48,49,50,51,52,53,54,55,56,57]⟩:ByteArray)).bind fun t825=>(whole_Parse.j0 k bt823.1 bt823.2 (t825.toList != ([]:List UInt8)))))
theorem whole_Parse.calls (k:Nat) (a0:ByteArray) (r1:Bool) (r2:List Int) (r3:Int) (w:World) (h:whole_Parse.f k a0=some (r1,r2,r3)) :
  Calls Tryz.prog 28 #[.string a0] w fun e w'=>∃v1_:Value,e=.returned (.tuple #[.agg #[.bool r1,v1_],.int .i64 r3])∧Kd.R (Kd.int .u64) 91 w' w.heap.size (fun _=>True) v1_ r2∧Below w.heap.size w w':=by
 have cA:=Tryz.underlying25
 have HB:=Aside0.mk (Below.refl w.heap.size w)
 have H:((strings_CutPrefixG.f a0 (⟨#[45]⟩:ByteArray)).bind fun aB=>(if aB.1.toList=([]:List UInt8) then(whole_Parse.j0 k aB.1 aB.2 true) else((strings_TrimG.f aB.1 (⟨#[48,49,50,51,52,53,54,55,56,57]⟩:ByteArray)).bind fun ax=>(whole_Parse.j0 k aB.1 aB.2 (ax.toList != ([]:List UInt8))))))=some (r1,r2,r3):=h
 clear h
 replace H:=Option.bind_eq_some_iff.mp H
 obtain⟨⟨al,aj⟩,A20,H⟩:=H
 replace H:(if al.toList=([]:List UInt8) then(whole_Parse.j0 k al aj true) else((strings_TrimG.f al (⟨#[48,49,50,51,52,53,54,55,56,57]⟩:ByteArray)).bind fun ax=>(whole_Parse.j0 k al aj (ax.toList != ([]:List UInt8)))))=some (r1,r2,r3):=H
 have A2:=Aside0.mk A20
 clear A20
 have HC3:=Aside0.mk H
 clear H
 go_enter Tryz.func28,Tryz.ntmps28
 go_upto_region 2 with(first|(refine gd 2 rfl ?_;refine kbe 2 #[.bool false,.slice none 0 0] 25 ?_;intro ae hg w4 hbox hb;have aa:=Aside0.mk (hbox);have cv:=kbz hg HB;have aq:=kbz hg HB;replace HB:=kbs HB hb;clear hb hbox hg)|((with_reducible refine gate_callee (f:=73) rfl ?_);refine kgl (some 13) rfl rfl Tryz.func73 #[.string a0,.string (⟨#[45]⟩:ByteArray)] rfl ?_;(with_reducible refine(strings_CutPrefixG.calls a0 (⟨#[45]⟩:ByteArray) al aj _ A2.out).mono ?_);rintro e w' ⟨rfl,⟨nd,rfl⟩⟩;refine⟨_,rfl,?_⟩))
 (try simp only[Act.put,kss])
 go_cut [22] (fun v22 wc=>∃(kq:Nat) (aN:Bool),v22=.bool aN∧Aside0 (whole_Parse.j0 kq al aj aN=some (r1,r2,r3))∧Aside0 (kq≤k)∧Aside0 (wc.heap[ae]? = some (.cells #[.bool false,(.slice none 0 0)] 25 (0,0)))∧Aside0 (Below w.heap.size w wc))
 case first=>
  have H:=HC3.out
  clear HC3
  by_cases c5:al.toList=([]:List UInt8)
  ·rw[if_pos c5]at H
   have ay:(al.toList==([]:List UInt8))=true:=beq_iff_eq.mpr c5
   have aG:(al.toList != ([]:List UInt8))=false:=bne_eq_false_iff_eq.mpr c5
   clear c5
   (first|rw[ay]|rw[aG]|(simp only[i64_w,i32_w];rw[ay])|skip)
   have H':=Aside0.mk H
   clear H
   go_wp2
   go_meet
   case rel=>exact⟨_,(true),Y0,H',⟨F5⟩,⟨by(with_reducible repeat (first|refine blk_drewN ?_ _|refine blk_drew ?_|refine blk_alloc ?_ _));exact aa.out⟩,⟨by repeat (first|(with_reducible first|exact HB.out|apply below_alloc|apply pw_below_drewN|apply below_drew1|refine below_set ?_ aq.out)|exact HB.out)⟩⟩
  rw[if_neg c5]at H
  have ay:(al.toList==([]:List UInt8))=false:=beq_eq_false_iff_ne.mpr c5
  have aG:(al.toList != ([]:List UInt8))=true:=bne_iff_ne.mpr c5
  (first|rw[ay]|rw[aG]|(simp only[i64_w,i32_w];rw[ay])|skip)
  replace H:=Option.bind_eq_some_iff.mp H
  obtain⟨ax,A60,H⟩:=H
  replace H:(whole_Parse.j0 k al aj (ax.toList != ([]:List UInt8)))=some (r1,r2,r3):=H
  have A6:=Aside0.mk A60
  clear A60
  have H':=Aside0.mk H
  clear H
  go_wp2_with (first|(go_at_call 74;(with_reducible refine(strings_TrimG.calls al (⟨#[48,49,50,51,52,53,54,55,56,57]⟩:ByteArray) ax _ A6.out).mono ?_);rintro e w7 ⟨rfl,hb⟩;replace aa:=kbb aa hb;replace HB:=kbs HB hb;(try clear hb);(try clear hb2);(try clear hk);(try clear hi)))
  go_meet
  case rel=>exact⟨_,((ax.toList != ([]:List UInt8))),(by first|rfl|(simp;done)|(simp;cases ax.toList<;>rfl)),H',⟨F5⟩,⟨by(with_reducible repeat (first|refine blk_drewN ?_ _|refine blk_drew ?_|refine blk_alloc ?_ _));exact aa.out⟩,⟨by repeat (first|(with_reducible first|exact HB.out|apply below_alloc|apply pw_below_drewN|apply below_drew1|refine below_set ?_ aq.out)|exact HB.out)⟩⟩
 case rest =>
  clear HC3
  try clear c2
  try clear p2
  try clear c5
  try clear ay
  try clear aG
  try clear c7
  obtain⟨kq,aN,rfl,HA,HJ2,aa,HB⟩:=hcut
  cases kq with
  | zero=>exact absurd HA.out (by simp[whole_Parse.j0])
  | succ kj2=>
   have H:=HA.out
   clear HA
   simp only[whole_Parse.j0]at H
   by_cases c8:aN=true
   ·subst c8
    have H1:(some (false,([]:List Int),13))=some (r1,r2,r3):=by rw[if_pos rfl]at H;exact H
    clear H
    have H:=H1
    clear H1
    simp only[Option.some.injEq,Prod.mk.injEq]at H
    obtain⟨rfl,rfl,rfl⟩:=H
    have aX:wc.cell? ⟨ae,0,none⟩=some (.bool false):=(blk_cell aa.out 0).trans rfl
    have aY:wc.cell? ⟨ae,1,none⟩=some (.slice none 0 0):=(blk_cell aa.out 1).trans rfl
    have aZ:=blk_frozen aa.out 0
    have bb:=blk_frozen aa.out 1
    go_wp2
    refine bodyPost_ret (results_ct rfl _ _ ae 25 #[.bool false,.slice none 0 0] (0,0) _ rfl (kpu #[.bool false,.slice none 0 0] 1 (kpu #[.bool false,.slice none 0 0] 0 (kbu aa.out))) Tryz.underlying25 rfl X0) rfl ?_
    exact⟨_,B0,D0,by repeat (first|(with_reducible first|exact HB.out|apply below_alloc|apply pw_below_drewN|apply below_drew1|refine below_set ?_ aq.out)|exact HB.out)⟩
   replace c8:=Bool.eq_false_iff.mpr c8
   subst c8
   have H1:((strings_TrimLeftG.f al (⟨#[48]⟩:ByteArray)).bind fun aR=>(whole_Parse.l0 kj2 aR aj ([]:List Int)))=some (r1,r2,r3):=by rw[if_neg (show ¬(false=true) by decide)]at H;exact H
   clear H
   have H:=H1
   clear H1
   replace H:=Option.bind_eq_some_iff.mp H
   obtain⟨aR,bo,H⟩:=H
   replace H:(whole_Parse.l0 kj2 aR aj ([]:List Int))=some (r1,r2,r3):=H
   have A10:=Aside0.mk bo
   clear bo
   have H':=Aside0.mk H
   clear H
   go_wp2_with (first|((with_reducible refine gate_callee (f:=75) rfl ?_);refine kgl (some 25) rfl rfl Tryz.func75 #[.string al,.string (⟨#[48]⟩:ByteArray)] rfl ?_;(with_reducible refine(strings_TrimLeftG.calls al (⟨#[48]⟩:ByteArray) aR _ A10.out).mono ?_);rintro e w11 ⟨rfl,hb⟩;refine⟨_,rfl,?_⟩;replace aa:=kbb aa hb;replace HB:=kbs HB hb;(try clear hb);(try clear hb2);(try clear hk);(try clear hi)))
   go_loopg [4,6] kj2 (fun kq v4 v6 w'=>∃(ab:ByteArray) (an:List Int) (ai:Bool),v4=.string ab∧Aside0 (whole_Parse.l0 kq ab aj an=some (r1,r2,r3))∧Aside0 (kq≤kj2)∧Aside0 (Kd.V (Kd.int .u64) 91 w' w.heap.size (fun k_=>k_≠ae) v6 an)∧Aside0 (w'.heap[ae]? = some (.cells #[.bool ai,(.slice none 0 0)] 25 (0,0)))∧Aside0 (Below w.heap.size w w'))
   case atStart=>exact⟨(aR),(([]:List Int)),(false),Y0,H',⟨Nat.le_refl _⟩,⟨Kd.V_nil _ _ _ _ _⟩,⟨by(with_reducible repeat (first|refine blk_drewN ?_ _|refine blk_drew ?_|refine blk_alloc ?_ _));exact aa.out⟩,⟨by repeat (first|(with_reducible first|exact HB.out|apply below_alloc|apply pw_below_drewN|apply below_drew1|refine below_set ?_ aq.out)|exact HB.out)⟩⟩
   case round=>
    clear H'
    try clear c2
    try clear p2
    try clear c5
    try clear ay
    try clear aG
    try clear c7
    try clear c8
    try clear aX
    try clear aY
    try clear aZ
    try clear bb
    try clear p2
    obtain⟨ab,an,ai,rfl,HA,HK2,HO_6,aa,HB⟩:=hrel
    cases gk with
    | zero=>exact absurd HA.out (by simp[whole_Parse.l0])
    | succ k2=>
     have H:=HA.out
     clear HA
     simp only[whole_Parse.l0]at H
     by_cases c12:ab.toList=([]:List UInt8)
     ·rw[if_pos c12]at H
      have bg:(ab.toList==([]:List UInt8))=true:=beq_iff_eq.mpr c12
      have bh:(ab.toList != ([]:List UInt8))=false:=bne_eq_false_iff_eq.mpr c12
      clear c12
      replace H:=Option.bind_eq_some_iff.mp H
      obtain⟨⟨aT,aU⟩,bp,H⟩:=H
      replace H:((whole_number_told.f aT aU).bind fun aV=>(some (aV.1,aV.2.1,aV.2.2)))=some (r1,r2,r3):=H
      have A13:=Aside0.mk bp
      clear bp
      replace H:=Option.bind_eq_some_iff.mp H
      obtain⟨⟨aS,aW,bq⟩,br,H⟩:=H
      replace H:(some (aS,aW,bq))=some (r1,r2,r3):=H
      have A14:=Aside0.mk br
      clear br
      simp only[Option.some.injEq,Prod.mk.injEq]at H
      obtain⟨rfl,rfl,rfl⟩:=H
      obtain⟨Ao15,co15,bH⟩:=Kd.V_slice HO_6.out
      subst bH
      go_wp2_with (first|((with_reducible refine gate_callee (f:=80) rfl ?_);refine kgl (some 61) rfl rfl Tryz.func80 #[.slice Ao15 an.length co15,.bool aj] rfl ?_;(with_reducible refine(whole_signed.calls (fun k_=>k_≠ae) _ _ an aj aT aU _ ?side1 A13.out).mono ?_);(case side1=>exact HO_6.out);rintro e w16 ⟨cB,rfl,ho0,hb⟩;refine⟨_,rfl,?_⟩;replace HO_6:=kvb HO_6 hb;have aD:=Aside0.mk (Kd.V_lower (Kd.V_mono (ok':=fun k_=>k_≠ae) ho0 (fun k_ hk_=>Or.elim hk_ (fun hs_=>hs_) (kfb aa))) (below_size (khu HB.out)));replace aa:=kbb aa hb;replace HB:=kbs HB hb;(try clear hb);(try clear hb2);(try clear hk);(try clear hi);(try clear ho0);obtain⟨bI,bJ,bK⟩:=Kd.V_slice aD.out;subst bK)|((with_reducible refine gate_callee (f:=81) rfl ?_);refine kgl (some 62) rfl rfl Tryz.func81 #[.agg #[.slice bI aT.length bJ,.bool aU]] rfl ?_;(with_reducible refine(whole_number_told.calls _ _ aT aU aS aW bq _ ?side1 ?side2 A14.out).mono ?_);(case side1=>repeat (first|exact(Kd.V_reads' aD.out).2.2|(with_reducible refine Kd.C_alloc ?_ _)|(with_reducible refine Kd.C_drewN ?_ _)|(with_reducible refine Kd.C_drew ?_)));(case side2=>exact(Kd.V_reads' aD.out).2.1);rintro e w18 ⟨cC,rfl,ho0,hb⟩;refine⟨_,rfl,?_⟩;replace HO_6:=Aside0.mk (Kd.V_elder' (kvu HO_6.out) (Kd.R_base ho0) hb);replace aD:=Aside0.mk (Kd.V_elder' (kvu aD.out) (Kd.R_base ho0) hb);have bi:=Aside0.mk (Kd.R_lower ho0 (below_size (khu HB.out)));replace aa:=kbb aa hb;replace HB:=kbs HB hb;(try clear hb);(try clear hb2);(try clear hk);(try clear hi);(try clear ho0);have bj:w18.cell? ⟨ae,0,none⟩=some (.bool ai):=(blk_cell aa.out 0).trans rfl;have bk:w18.cell? ⟨ae,1,none⟩=some (.slice none 0 0):=(blk_cell aa.out 1).trans rfl;have bl:=blk_frozen aa.out 0;have bn:=blk_frozen aa.out 1;obtain⟨Ao20,co20,bL⟩:=Kd.R_slice bi.out;subst bL))
      refine bodyPost_ret (results_ct rfl _ _ ae 25 #[.bool aS,.slice Ao20 aW.length co20] (0,0) _ rfl (kpu #[.bool aS,.slice none 0 0] 1 (kpu #[.bool ai,.slice none 0 0] 0 (kbu aa.out))) Tryz.underlying25 rfl X0) rfl ?_
      exact⟨_,B0,by(with_reducible repeat (first|apply Kd.R_alloc|apply Kd.R_drewN|apply Kd.R_drew));exact Kd.R_mono (Kd.R_far (p:=⟨ae,1,none⟩) (Kd.R_far (p:=⟨ae,0,none⟩) (Kd.R_types bi.out aa.out J0) (fun _ hk=>hk.2) (.bool aS)) (fun _ hk=>hk.2) (.slice Ao20 aW.length co20)) (fun _ hk=>trivial),by repeat (first|(with_reducible first|exact HB.out|apply below_alloc|apply pw_below_drewN|apply below_drew1|refine below_set ?_ aq.out)|exact HB.out)⟩
     rw[if_neg c12]at H
     have bg:(ab.toList==([]:List UInt8))=false:=beq_eq_false_iff_ne.mpr c12
     have bh:(ab.toList != ([]:List UInt8))=true:=bne_iff_ne.mpr c12
     obtain⟨ac,aC⟩:∃j_:Int,(mn 18 (ab.size:Int))=j_:=⟨_,rfl⟩
     replace H:(if 0≤(ac) then(if(ac)≤(ab.size:Int) then((strconv_ParseUintG.f (ab.extract 0 ((ac):Int).toNat) 10 64).bind fun bz=>(whole_Parse.l1 k2 ab aj an ac bz.1 1 ac 0)) else(none)) else(none))=some (r1,r2,r3):=by first|(rw[aC]at H;exact H)|(simp only[aC]at H ⊢;exact H)
     have hji21_:(if(ab.size:Int)<18 then(ab.size:Int) else 18)=ac:=aC
     by_cases c22:0≤(ac)
     ·rw [if_pos c22]at H
      have bA:=eq_true c22
      have bB:decide (0≤(ac))=true:=decide_eq_true c22
      clear c22
      by_cases c23:(ac)≤(ab.size:Int)
      ·rw [if_pos c23]at H
       have bC:=eq_true c23
       have bD:decide ((ac)≤(ab.size:Int))=true:=decide_eq_true c23
       clear c23
       replace H:=Option.bind_eq_some_iff.mp H
       obtain⟨⟨ao,bM⟩,bu,H⟩:=H
       replace H:(whole_Parse.l1 k2 ab aj an ac ao 1 ac 0)=some (r1,r2,r3):=H
       have A24:=Aside0.mk bu
       clear bu
       have H':=Aside0.mk H
       clear H
       go_wp2_with (first|((with_reducible refine gate_callee (f:=76) rfl ?_);refine goesL_ (some 35) rfl rfl Tryz.func76 X0 rfl #[.string (ab.extract 0 ((ac):Int).toNat),.int .i64 10,.int .i64 64] rfl (by(try simp only[List.map_toArray,List.map_cons,List.map_nil]);first|done|(simp only[aC];rfl)|rfl|(simp only[List.length_drop,List.length_take];rfl)) ?_;(with_reducible refine(strconv_ParseUintG.calls (ab.extract 0 ((ac):Int).toNat) 10 64 ao bM _ A24.out).mono ?_);rintro e w25 ⟨rfl,hb⟩;refine⟨_,rfl,?_⟩;replace HO_6:=kvb HO_6 hb;replace aa:=kbb aa hb;replace HB:=kbs HB hb;(try clear hb);(try clear hb2);(try clear hk);(try clear hi);(try simp only[errW_none,errW_some])))
       go_loopg [10,39] k2 (fun kq v10 v39 w'=>∃(ak:Int) (av:Int),v10=.int .u64 ak∧v39=.int .i64 av∧Aside0 (whole_Parse.l1 kq ab aj an ac ao ak ac av=some (r1,r2,r3))∧Aside0 (kq≤k2)∧Aside0 (Kd.V (Kd.int .u64) 91 w' w.heap.size (fun k_=>k_≠ae) u6 an)∧Aside0 (w'.heap[ae]? = some (.cells #[.bool ai,(.slice none 0 0)] 25 (0,0)))∧Aside0 (Below w.heap.size w w'))
       case atStart=>exact⟨(1),(0),Y0,Y0,H',⟨Nat.le_refl _⟩,⟨kvu HO_6.out⟩,⟨by(with_reducible repeat (first|refine blk_drewN ?_ _|refine blk_drew ?_|refine blk_alloc ?_ _));exact aa.out⟩,⟨by repeat (first|(with_reducible first|exact HB.out|apply below_alloc|apply pw_below_drewN|apply below_drew1|refine below_set ?_ aq.out)|exact HB.out)⟩⟩
       case round=>
        clear H'
        try clear c1
        try clear c2
        try clear p2
        try clear c5
        try clear ay
        try clear aG
        try clear c7
        try clear c8
        try clear c12
        try clear bg
        try clear bh
        try clear c22
        try clear bA
        try clear bB
        try clear c23
        try clear bC
        try clear bD
        try clear bj
        try clear bk
        try clear aX
        try clear aY
        try clear bl
        try clear bn
        try clear aZ
        try clear bb
        try clear p2
        obtain⟨ak,av,rfl,rfl,HA,HK3,HO_6,aa,HB⟩:=hrel
        cases gk with
        | zero=>exact absurd HA.out (by simp[whole_Parse.l1])
        | succ k3=>
         have H:=HA.out
         clear HA
         simp only[whole_Parse.l1]at H
         by_cases c26:av<ac
         ·rw[if_pos c26]at H
          have bE:decide (av<ac)=true:=decide_eq_true c26
          clear c26
          have H':=Aside0.mk H
          clear H
          go_wp2
          go_roundg k3
          case measure=>have:=HJ2.out;have:=HK2.out;have:=HK3.out;omega
          case rel=>exact⟨(IntKind.u64.wrap (ak*10)),(wrap64 (av+1)),Y0,Y0,H',⟨by have:=HJ2.out;have:=HK2.out;have:=HK3.out;omega⟩,⟨kvu HO_6.out⟩,⟨by(with_reducible repeat (first|refine blk_drewN ?_ _|refine blk_drew ?_|refine blk_alloc ?_ _));exact aa.out⟩,⟨by repeat (first|(with_reducible first|exact HB.out|apply below_alloc|apply pw_below_drewN|apply below_drew1|refine below_set ?_ aq.out)|exact HB.out)⟩⟩
         rw[if_neg c26]at H
         have bE:decide (av<ac)=false:=decide_eq_false c26
         clear c26
         obtain⟨am,aE⟩:∃y_:List Int,y_=(([ak]:List Int)):=⟨_,rfl⟩
         replace H:((whole_amount_times.f k3 an am).bind fun au=>((whole_trimmed.f k3 (([ao]:List Int))).bind fun ap=>((whole_amount_plus.f k3 au ap).bind fun af=>(if(af.length:Int)>4096 then(some (false,([]:List Int),5)) else(if 0≤ac then(if ac≤(ab.size:Int) then(whole_Parse.l0 k3 (ab.extract (ac:Int).toNat ab.size) aj af) else(none)) else(none))))))=some (r1,r2,r3):=by first|(rw[aE];with_reducible exact H)|(have H2_:=(Option.bind_some _ _).symm.trans H;rw[aE];with_reducible exact H2_)|(have H2_:=(Option.bind_some _ _).symm.trans H;with_reducible exact H2_)|with_reducible exact H|(rw[aE];exact H)|exact H
         have aO:=Aside0.mk aE
         clear aE
         replace H:=Option.bind_eq_some_iff.mp H
         obtain⟨au,bv,H⟩:=H
         replace H:((whole_trimmed.f k3 (([ao]:List Int))).bind fun ap=>((whole_amount_plus.f k3 au ap).bind fun af=>(if(af.length:Int)>4096 then(some (false,([]:List Int),5)) else(if 0≤ac then(if ac≤(ab.size:Int) then(whole_Parse.l0 k3 (ab.extract (ac:Int).toNat ab.size) aj af) else(none)) else(none)))))=some (r1,r2,r3):=H
         have A27:=Aside0.mk bv
         clear bv
         obtain⟨aw,aF⟩:∃y_:List Int,y_=(([ao]:List Int)):=⟨_,rfl⟩
         replace H:((whole_trimmed.f k3 aw).bind fun ap=>((whole_amount_plus.f k3 au ap).bind fun af=>(if(af.length:Int)>4096 then(some (false,([]:List Int),5)) else(if 0≤ac then(if ac≤(ab.size:Int) then(whole_Parse.l0 k3 (ab.extract (ac:Int).toNat ab.size) aj af) else(none)) else(none)))))=some (r1,r2,r3):=by first|(rw[aF];with_reducible exact H)|(have H2_:=(Option.bind_some _ _).symm.trans H;rw[aF];with_reducible exact H2_)|(have H2_:=(Option.bind_some _ _).symm.trans H;with_reducible exact H2_)|with_reducible exact H|(rw[aF];exact H)|exact H
         have aP:=Aside0.mk aF
         clear aF
         replace H:=Option.bind_eq_some_iff.mp H
         obtain⟨ap,bw,H⟩:=H
         replace H:((whole_amount_plus.f k3 au ap).bind fun af=>(if(af.length:Int)>4096 then(some (false,([]:List Int),5)) else(if 0≤ac then(if ac≤(ab.size:Int) then(whole_Parse.l0 k3 (ab.extract (ac:Int).toNat ab.size) aj af) else(none)) else(none))))=some (r1,r2,r3):=H
         have A28:=Aside0.mk bw
         clear bw
         replace H:=Option.bind_eq_some_iff.mp H
         obtain⟨af,bx,H⟩:=H
         replace H:(if(af.length:Int)>4096 then(some (false,([]:List Int),5)) else(if 0≤ac then(if ac≤(ab.size:Int) then(whole_Parse.l0 k3 (ab.extract (ac:Int).toNat ab.size) aj af) else(none)) else(none)))=some (r1,r2,r3):=H
         have A29:=Aside0.mk bx
         clear bx
         by_cases c30:(af.length:Int)>4096
         ·rw[if_pos c30]at H
          have bF:decide (4096<(af.length:Int))=true:=decide_eq_true c30
          have bG:decide (4096<af.length)=true:=decide_eq_true Z0
          clear c30
          simp only[Option.some.injEq,Prod.mk.injEq]at H
          obtain⟨rfl,rfl,rfl⟩:=H
          go_wp2_with (first|(refine gd 46 rfl ?_;refine Kd.R_lit (Kd.int .u64) _ 91 ?hg (N:=46) ?hd (xs:=([ak]:List Int)) (inner:=[.int .u64 ak]) (ok:=fun _=>True) (okp:=fun _=>True) ?hr ?hp (fun _ hk=>hk) trivial (Below.refl _ _) (Nat.le_refl _) Z1 ?_;(case hd=>rfl);(case hg=>rfl);(case hr=>first|(go_simp;done)|(go_simp;rfl));(case hp=>exact(Reps.one (show Kd.M (Kd.int .u64) _ _ _ ak [.int .u64 ak] from rfl) (Reps.none _ _)));intro bN w31 aH hb hg_ hnew_;clear hg_ hnew_;(first|rw[←aO.out]at aH|(simp only[Int.reduceToNat]at aH;rw[←aO.out]at aH));replace HO_6:=Aside0.mk (Kd.V_elder' (kvu HO_6.out) (Kd.R_base aH) hb);have ad:=Aside0.mk (Kd.R_lower aH (below_size (khu HB.out)));replace aa:=kbb aa hb;replace HB:=kbs HB hb;clear hb aH;obtain⟨bO,bP,bQ⟩:=Kd.V_slice HO_6.out;subst bQ;obtain⟨aI,aJ,bR⟩:=Kd.R_slice ad.out;subst bR)|((with_reducible refine gate_callee (f:=77) rfl ?_);refine kgl (some 47) rfl rfl Tryz.func77 #[.slice bO an.length bP,.slice aI am.length aJ] rfl ?_;(with_reducible refine(whole_amount_times.calls k3 _ _ an _ _ am au _ ?side1 ?side2 ?side3 ?side4 A27.out).mono ?_);(case side1=>repeat (first|exact(Kd.V_reads' HO_6.out).2.2|(with_reducible refine Kd.C_alloc ?_ _)|(with_reducible refine Kd.C_drewN ?_ _)|(with_reducible refine Kd.C_drew ?_)));(case side2=>exact(Kd.V_reads' HO_6.out).2.1);(case side3=>repeat (first|exact(Kd.R_reads' ad.out).2.2|(with_reducible refine Kd.C_alloc ?_ _)|(with_reducible refine Kd.C_drewN ?_ _)|(with_reducible refine Kd.C_drew ?_)));(case side4=>exact(Kd.R_reads' ad.out).2.1);rintro e w35 ⟨bS,rfl,ho0,hb⟩;refine⟨_,rfl,?_⟩;replace HO_6:=kvb HO_6 hb;have ag:=Aside0.mk (Kd.V_lower (Kd.V_mono (ok':=fun k_=>some k_≠(.slice aI am.length aJ:Value).ownBlock∧k_≠ae) ho0 (fun k_ hk_=>⟨(Kd.fresh' (Kd.R_lt (kru ad.out)) k_ hk_),(kfb aa hk_)⟩)) (below_size (khu HB.out)));replace ad:=krb ad hb;replace aa:=kbb aa hb;replace HB:=kbs HB hb;(try clear hb);(try clear hb2);(try clear hk);(try clear hi);(try clear ho0))|(refine gd 49 rfl ?_;refine Kd.R_lit (Kd.int .u64) _ 91 ?hg (N:=49) ?hd (xs:=([ao]:List Int)) (inner:=[.int .u64 ao]) (ok:=fun _=>True) (okp:=fun _=>True) ?hr ?hp (fun _ hk=>hk) trivial (Below.refl _ _) (Nat.le_refl _) Z1 ?_;(case hd=>rfl);(case hg=>rfl);(case hr=>first|(go_simp;done)|(go_simp;rfl));(case hp=>exact(Reps.one (show Kd.M (Kd.int .u64) _ _ _ ao [.int .u64 ao] from rfl) (Reps.none _ _)));intro bT w36 az hb hg_ hnew_;clear hg_ hnew_;(first|rw[←aP.out]at az|(simp only[Int.reduceToNat]at az;rw[←aP.out]at az));replace HO_6:=Aside0.mk (Kd.V_elder' (kvu HO_6.out) (Kd.R_base az) hb);replace ag:=Aside0.mk (Kd.V_elder' (kvu ag.out) (Kd.R_base az) hb);have ah:=Aside0.mk (Kd.R_lower (Kd.R_new' az (Kd.R_lt (kru ad.out))) (below_size (khu HB.out)));replace ad:=Aside0.mk (Kd.R_elder' (kru ad.out) (Kd.R_base az) hb);replace aa:=kbb aa hb;replace HB:=kbs HB hb;clear hb az;obtain⟨bc,bd,bU⟩:=Kd.R_slice ah.out;subst bU)|((with_reducible refine gate_callee (f:=79) rfl ?_);refine kgl (some 50) rfl rfl Tryz.func79 #[.slice bc aw.length bd] rfl ?_;(with_reducible refine(whole_trimmed.calls k3 (fun k_=>some k_=(.slice bc aw.length bd:Value).ownBlock) _ _ aw ap _ ?side1 A28.out).mono ?_);(case side1=>exact Kd.R_V (Kd.R_tight rfl (Kd.R_types (ah.out) aa.out J0)));rintro e w39 ⟨bV,rfl,ho0,hb⟩;refine⟨_,rfl,?_⟩;replace HO_6:=kvb HO_6 hb;replace ag:=kvb ag hb;have ar:=Aside0.mk (Kd.V_lower (Kd.V_mono (ok':=fun k_=>some k_≠(.slice aI am.length aJ:Value).ownBlock∧k_≠ae) ho0 (fun k_ hk_=>⟨Or.elim hk_ (fun hs_=>((Kd.R_types (ah.out) aa.out J0).1 k_ hs_.symm).1.2) (fun hn_=>(Kd.fresh' (Kd.R_lt (kru ad.out)) k_ hn_)),Or.elim hk_ (fun hs_=>((Kd.R_types (ah.out) aa.out J0).1 k_ hs_.symm).2) (kfb aa)⟩)) (below_size (khu HB.out)));replace ad:=krb ad hb;replace ah:=krb ah hb;replace aa:=kbb aa hb;replace HB:=kbs HB hb;(try clear hb);(try clear hb2);(try clear hk);(try clear hi);(try clear ho0);obtain⟨bW,bX,bY⟩:=Kd.V_slice ag.out;subst bY;obtain⟨bZ,ca,cb⟩:=Kd.V_slice ar.out;subst cb)|((with_reducible refine gate_callee (f:=78) rfl ?_);refine kgl (some 51) rfl rfl Tryz.func78 #[.slice bW au.length bX,.slice bZ ap.length ca] rfl ?_;(with_reducible refine(whole_amount_plus.calls k3 (fun k_=>((some k_≠(.slice aI am.length aJ:Value).ownBlock∧k_≠ae)∧some k_≠(.slice bc aw.length bd:Value).ownBlock)) _ _ au (fun k_=>(some k_≠(.slice aI am.length aJ:Value).ownBlock∧k_≠ae)) _ _ ap af _ ?side1 ?side2 A29.out).mono ?_);(case side1=>exact ag.out);(case side2=>exact ar.out);rintro e w42 ⟨cc,rfl,ho0,hb⟩;refine⟨_,rfl,?_⟩;replace HO_6:=kvb HO_6 hb;replace ag:=kvb ag hb;replace ah:=krb ah hb;replace ar:=kvb ar hb;have aQ:=Aside0.mk (Kd.V_lower (Kd.V_mono (ok':=fun k_=>some k_≠(.slice aI am.length aJ:Value).ownBlock∧k_≠ae) ho0 (fun k_ hk_=>⟨Or.elim hk_ (fun hs_=>Or.elim hs_ (fun hs_=>hs_.1.1) (fun hs_=>hs_.1)) (fun hn_=>(Kd.fresh' (Kd.R_lt (kru ad.out)) k_ hn_)),Or.elim hk_ (fun hs_=>Or.elim hs_ (fun hs_=>hs_.1.2) (fun hs_=>hs_.2)) (kfb aa)⟩)) (below_size (khu HB.out)));replace ad:=krb ad hb;replace aa:=kbb aa hb;replace HB:=kbs HB hb;(try clear hb);(try clear hb2);(try clear hk);(try clear hi);(try clear ho0);obtain⟨cD,cE,cd⟩:=Kd.V_slice aQ.out;subst cd;have cq:w42.cell? ⟨ae,0,none⟩=some (.bool ai):=(blk_cell aa.out 0).trans rfl;have cr:w42.cell? ⟨ae,1,none⟩=some (.slice none 0 0):=(blk_cell aa.out 1).trans rfl;have ct:=blk_frozen aa.out 0;have cu:=blk_frozen aa.out 1))
          refine bodyPost_ret (results_ct rfl _ _ ae 25 #[.bool false,.slice none 0 0] (0,0) _ rfl (kpu #[.bool false,.slice none 0 0] 1 (kpu #[.bool ai,.slice none 0 0] 0 (kbu aa.out))) Tryz.underlying25 rfl X0) rfl ?_
          exact⟨_,by first|rfl|(simp[errW_none,errW_some]<;>rfl)|(simp only[←aC];first|rfl|(simp[errW_none,errW_some]<;>rfl))|(simp[*,errW_none,errW_some]<;>rfl),D0,by repeat (first|(with_reducible first|exact HB.out|apply below_alloc|apply pw_below_drewN|apply below_drew1|refine below_set ?_ aq.out)|exact HB.out)⟩
         rw[if_neg c30]at H
         have bF:decide (4096<(af.length:Int))=false:=decide_eq_false c30
         have bG:decide (4096<af.length)=false:=decide_eq_false Z0
         clear c30
         by_cases c45:0≤ac
         ·rw[if_pos c45]at H
          have cw:=eq_true c45
          have cx:decide (0≤ac)=true:=decide_eq_true c45
          clear c45
          by_cases c46:ac≤(ab.size:Int)
          ·rw[if_pos c46]at H
           have cy:=eq_true c46
           have cz:decide (ac≤(ab.size:Int))=true:=decide_eq_true c46
           clear c46
           have H':=Aside0.mk H
           clear H
           go_wp2_with (first|(refine gd 46 rfl ?_;refine Kd.R_lit (Kd.int .u64) _ 91 ?hg (N:=46) ?hd (xs:=([ak]:List Int)) (inner:=[.int .u64 ak]) (ok:=fun _=>True) (okp:=fun _=>True) ?hr ?hp (fun _ hk=>hk) trivial (Below.refl _ _) (Nat.le_refl _) Z1 ?_;(case hd=>rfl);(case hg=>rfl);(case hr=>first|(go_simp;done)|(go_simp;rfl));(case hp=>exact(Reps.one (show Kd.M (Kd.int .u64) _ _ _ ak [.int .u64 ak] from rfl) (Reps.none _ _)));intro bN w47 aK hb hg_ hnew_;clear hg_ hnew_;(first|rw[←aO.out]at aK|(simp only[Int.reduceToNat]at aK;rw[←aO.out]at aK));replace HO_6:=Aside0.mk (Kd.V_elder' (kvu HO_6.out) (Kd.R_base aK) hb);have ad:=Aside0.mk (Kd.R_lower aK (below_size (khu HB.out)));replace aa:=kbb aa hb;replace HB:=kbs HB hb;clear hb aK;obtain⟨ce,cf,cg⟩:=Kd.V_slice HO_6.out;subst cg;obtain⟨aL,aM,ch⟩:=Kd.R_slice ad.out;subst ch)|((with_reducible refine gate_callee (f:=77) rfl ?_);refine kgl (some 47) rfl rfl Tryz.func77 #[.slice ce an.length cf,.slice aL am.length aM] rfl ?_;(with_reducible refine(whole_amount_times.calls k3 _ _ an _ _ am au _ ?side1 ?side2 ?side3 ?side4 A27.out).mono ?_);(case side1=>repeat (first|exact(Kd.V_reads' HO_6.out).2.2|(with_reducible refine Kd.C_alloc ?_ _)|(with_reducible refine Kd.C_drewN ?_ _)|(with_reducible refine Kd.C_drew ?_)));(case side2=>exact(Kd.V_reads' HO_6.out).2.1);(case side3=>repeat (first|exact(Kd.R_reads' ad.out).2.2|(with_reducible refine Kd.C_alloc ?_ _)|(with_reducible refine Kd.C_drewN ?_ _)|(with_reducible refine Kd.C_drew ?_)));(case side4=>exact(Kd.R_reads' ad.out).2.1);rintro e w51 ⟨bS,rfl,ho0,hb⟩;refine⟨_,rfl,?_⟩;replace HO_6:=kvb HO_6 hb;have ag:=Aside0.mk (Kd.V_lower (Kd.V_mono (ok':=fun k_=>some k_≠(.slice aL am.length aM:Value).ownBlock∧k_≠ae) ho0 (fun k_ hk_=>⟨(Kd.fresh' (Kd.R_lt (kru ad.out)) k_ hk_),(kfb aa hk_)⟩)) (below_size (khu HB.out)));replace ad:=krb ad hb;replace aa:=kbb aa hb;replace HB:=kbs HB hb;(try clear hb);(try clear hb2);(try clear hk);(try clear hi);(try clear ho0))|(refine gd 49 rfl ?_;refine Kd.R_lit (Kd.int .u64) _ 91 ?hg (N:=49) ?hd (xs:=([ao]:List Int)) (inner:=[.int .u64 ao]) (ok:=fun _=>True) (okp:=fun _=>True) ?hr ?hp (fun _ hk=>hk) trivial (Below.refl _ _) (Nat.le_refl _) Z1 ?_;(case hd=>rfl);(case hg=>rfl);(case hr=>first|(go_simp;done)|(go_simp;rfl));(case hp=>exact(Reps.one (show Kd.M (Kd.int .u64) _ _ _ ao [.int .u64 ao] from rfl) (Reps.none _ _)));intro bT w52 aA hb hg_ hnew_;clear hg_ hnew_;(first|rw[←aP.out]at aA|(simp only[Int.reduceToNat]at aA;rw[←aP.out]at aA));replace HO_6:=Aside0.mk (Kd.V_elder' (kvu HO_6.out) (Kd.R_base aA) hb);replace ag:=Aside0.mk (Kd.V_elder' (kvu ag.out) (Kd.R_base aA) hb);have ah:=Aside0.mk (Kd.R_lower (Kd.R_new' aA (Kd.R_lt (kru ad.out))) (below_size (khu HB.out)));replace ad:=Aside0.mk (Kd.R_elder' (kru ad.out) (Kd.R_base aA) hb);replace aa:=kbb aa hb;replace HB:=kbs HB hb;clear hb aA;obtain⟨be,bf,ci⟩:=Kd.R_slice ah.out;subst ci)|((with_reducible refine gate_callee (f:=79) rfl ?_);refine kgl (some 50) rfl rfl Tryz.func79 #[.slice be aw.length bf] rfl ?_;(with_reducible refine(whole_trimmed.calls k3 (fun k_=>some k_=(.slice be aw.length bf:Value).ownBlock) _ _ aw ap _ ?side1 A28.out).mono ?_);(case side1=>exact Kd.R_V (Kd.R_tight rfl (Kd.R_types (ah.out) aa.out J0)));rintro e w55 ⟨bV,rfl,ho0,hb⟩;refine⟨_,rfl,?_⟩;replace HO_6:=kvb HO_6 hb;replace ag:=kvb ag hb;have ar:=Aside0.mk (Kd.V_lower (Kd.V_mono (ok':=fun k_=>some k_≠(.slice aL am.length aM:Value).ownBlock∧k_≠ae) ho0 (fun k_ hk_=>⟨Or.elim hk_ (fun hs_=>((Kd.R_types (ah.out) aa.out J0).1 k_ hs_.symm).1.2) (fun hn_=>(Kd.fresh' (Kd.R_lt (kru ad.out)) k_ hn_)),Or.elim hk_ (fun hs_=>((Kd.R_types (ah.out) aa.out J0).1 k_ hs_.symm).2) (kfb aa)⟩)) (below_size (khu HB.out)));replace ad:=krb ad hb;replace ah:=krb ah hb;replace aa:=kbb aa hb;replace HB:=kbs HB hb;(try clear hb);(try clear hb2);(try clear hk);(try clear hi);(try clear ho0);obtain⟨cj,ck,cl⟩:=Kd.V_slice ag.out;subst cl;obtain⟨cm,cn,co⟩:=Kd.V_slice ar.out;subst co)|((with_reducible refine gate_callee (f:=78) rfl ?_);refine kgl (some 51) rfl rfl Tryz.func78 #[.slice cj au.length ck,.slice cm ap.length cn] rfl ?_;(with_reducible refine(whole_amount_plus.calls k3 (fun k_=>((some k_≠(.slice aL am.length aM:Value).ownBlock∧k_≠ae)∧some k_≠(.slice be aw.length bf:Value).ownBlock)) _ _ au (fun k_=>(some k_≠(.slice aL am.length aM:Value).ownBlock∧k_≠ae)) _ _ ap af _ ?side1 ?side2 A29.out).mono ?_);(case side1=>exact ag.out);(case side2=>exact ar.out);rintro e w58 ⟨cc,rfl,ho0,hb⟩;refine⟨_,rfl,?_⟩;replace HO_6:=kvb HO_6 hb;replace ag:=kvb ag hb;replace ah:=krb ah hb;replace ar:=kvb ar hb;have aQ:=Aside0.mk (Kd.V_lower (Kd.V_mono (ok':=fun k_=>some k_≠(.slice aL am.length aM:Value).ownBlock∧k_≠ae) ho0 (fun k_ hk_=>⟨Or.elim hk_ (fun hs_=>Or.elim hs_ (fun hs_=>hs_.1.1) (fun hs_=>hs_.1)) (fun hn_=>(Kd.fresh' (Kd.R_lt (kru ad.out)) k_ hn_)),Or.elim hk_ (fun hs_=>Or.elim hs_ (fun hs_=>hs_.1.2) (fun hs_=>hs_.2)) (kfb aa)⟩)) (below_size (khu HB.out)));replace ad:=krb ad hb;replace aa:=kbb aa hb;replace HB:=kbs HB hb;(try clear hb);(try clear hb2);(try clear hk);(try clear hi);(try clear ho0);obtain⟨cF,cG,cp⟩:=Kd.V_slice aQ.out;subst cp))
           go_roundg k3
           case measure=>have:=HJ2.out;have:=HK2.out;have:=HK3.out;omega
           case rel=>exact⟨(ab.extract (ac:Int).toNat ab.size),(af),(ai),(by first|rfl|(simp;done)|(simp only[←aC]<;>(first|rfl|simp))|(simp[*];done)),H',⟨by have:=HJ2.out;have:=HK2.out;have:=HK3.out;omega⟩,⟨by(with_reducible repeat (first|apply Kd.V_alloc|apply Kd.V_drewN|apply Kd.V_drew));exact Kd.V_mono aQ.out (fun _ hk=>hk.2)⟩,⟨by(with_reducible repeat (first|refine blk_drewN ?_ _|refine blk_drew ?_|refine blk_alloc ?_ _));exact aa.out⟩,⟨by repeat (first|(with_reducible first|exact HB.out|apply below_alloc|apply pw_below_drewN|apply below_drew1|refine below_set ?_ aq.out)|exact HB.out)⟩⟩
          rw[if_neg c46]at H
          exact absurd H Z1
         rw[if_neg c45]at H
         exact absurd H Z1
      rw[if_neg c23]at H
      exact absurd H Z1
     rw[if_neg c22]at H
     exact absurd H Z1
mutual
def ratio_Parse.j0:Nat→ByteArray→ByteArray→ByteArray→Bool→Bool→Option (Bool×List Int×List Int×Int)
 | 0,_,_,_,_,_=>none
 | k+1,x0,x4,x5,x6,x28=>if x28=true then(some (false,([]:List Int),([]:List Int),13)) else(if x6=true then(ratio_Parse.j1 k x0 x4 x5) else(ratio_Parse.j1 k x0 x4 (⟨#[49]⟩:ByteArray)))
def ratio_Parse.j1:Nat→ByteArray→ByteArray→ByteArray→Option (Bool×List Int×List Int×Int)
 | 0,_,_,_=>none
 | k+1,x0,x4,x5=>(whole_Parse.f k x4).bind fun bt863=>((whole_Parse.f k x5).bind fun bt869=>(if bt863.2.2=0 then(ratio_Parse.j2 k x0 (bt869.2.2 != 0) bt863.1 bt863.2.1 bt869.1 bt869.2.1) else(ratio_Parse.j2 k x0 true bt863.1 bt863.2.1 bt869.1 bt869.2.1)))
def ratio_Parse.j2:Nat→ByteArray→Bool→Bool→List Int→Bool→List Int→Option (Bool×List Int×List Int×Int)
 | 0,_,_,_,_,_,_=>none
 | k+1,x0,x47,x869000,x869001,x875000,x875001=>if x47=true then(some (false,([]:List Int),([]:List Int),5)) else((ratio_number_long.f k x869000 x869001).bind fun t875=>(if t875=true then(ratio_Parse.j3 k x0 true x869000 x869001 x875000 x875001) else((ratio_number_long.f k x875000 x875001).bind fun t876=>(ratio_Parse.j3 k x0 t876 x869000 x869001 x875000 x875001))))
def ratio_Parse.j3:Nat→ByteArray→Bool→Bool→List Int→Bool→List Int→Option (Bool×List Int×List Int×Int)
 | 0,_,_,_,_,_,_=>none
 | k+1,x0,x56,x869000,x869001,x875000,x875001=>if x56=true then(some (false,([]:List Int),([]:List Int),5)) else((strings_HasPrefixG.f x0 (⟨#[45]⟩:ByteArray)).bind fun t877=>(if t877=true then((whole_Neg.f k x869000 x869001).bind fun bt878=>((ratio_Of.f k bt878.1 bt878.2 x875000 x875001).bind fun bt882=>(some (bt882.1,bt882.2.1,bt882.2.2.1,bt882.2.2.2)))) else((ratio_Of.f k x869000 x869001 x875000 x875001).bind fun bt890=>(some (bt890.1,bt890.2.1,bt890.2.2.1,bt890.2.2.2)))))
end
def ratio_Parse.f (k:Nat) (a0:ByteArray):Option (Bool×List Int×List Int×Int):=(strings_TrimPrefixG.f a0 (⟨#[45]⟩:ByteArray)).bind fun t857=>((strings_CutG.f t857 (⟨#[47]⟩:ByteArray)).bind fun bt858=>((ratio_plainG.f bt858.1).bind fun t861=>(if t861=true then(if bt858.2.2=true then((ratio_plainG.f bt858.2.1).bind fun t862=>(ratio_Parse.j0 k a0 bt858.1 bt858.2.1 bt858.2.2 (!t862))) else(ratio_Parse.j0 k a0 bt858.1 bt858.2.1 bt858.2.2 false)) else(ratio_Parse.j0 k a0 bt858.1 bt858.2.1 bt858.2.2 true))))
theorem ratio_Parse.calls (k:Nat) (a0:ByteArray) (r1:Bool) (r2:List Int) (r3:List Int) (r4:Int) (w:World) (h:ratio_Parse.f k a0=some (r1,r2,r3,r4)) :
  Calls Tryz.prog 33 #[.string a0] w fun e w'=>∃v1_ v2_:Value,e=.returned (.tuple #[.agg #[.bool r1,v1_,v2_],.int .i64 r4])∧Kd.R (Kd.int .u64) 91 w' w.heap.size (fun k_=>some k_≠(v2_:Value).ownBlock) v1_ r2∧Kd.R (Kd.int .u64) 91 w' w.heap.size (fun k_=>some k_≠(v1_:Value).ownBlock) v2_ r3∧Below w.heap.size w w':=by
 have dM:=Tryz.underlying27
 have dN:=Tryz.underlying25
 have dO:=Tryz.underlying65
 have HB:=Aside0.mk (Below.refl w.heap.size w)
 have H:((strings_TrimPrefixG.f a0 (⟨#[45]⟩:ByteArray)).bind fun aJ=>((strings_CutG.f aJ (⟨#[47]⟩:ByteArray)).bind fun ac=>((ratio_plainG.f ac.1).bind fun az=>(if az=true then(if ac.2.2=true then((ratio_plainG.f ac.2.1).bind fun ap=>(ratio_Parse.j0 k a0 ac.1 ac.2.1 ac.2.2 (!ap))) else(ratio_Parse.j0 k a0 ac.1 ac.2.1 ac.2.2 false)) else(ratio_Parse.j0 k a0 ac.1 ac.2.1 ac.2.2 true)))))=some (r1,r2,r3,r4):=h
 clear h
 replace H:=Option.bind_eq_some_iff.mp H
 obtain⟨aJ,A20,H⟩:=H
 replace H:((strings_CutG.f aJ (⟨#[47]⟩:ByteArray)).bind fun ac=>((ratio_plainG.f ac.1).bind fun az=>(if az=true then(if ac.2.2=true then((ratio_plainG.f ac.2.1).bind fun ap=>(ratio_Parse.j0 k a0 ac.1 ac.2.1 ac.2.2 (!ap))) else(ratio_Parse.j0 k a0 ac.1 ac.2.1 ac.2.2 false)) else(ratio_Parse.j0 k a0 ac.1 ac.2.1 ac.2.2 true))))=some (r1,r2,r3,r4):=H
 have A2:=Aside0.mk A20
 clear A20
 replace H:=Option.bind_eq_some_iff.mp H
 obtain⟨⟨ad,ai,al⟩,A30,H⟩:=H
 replace H:((ratio_plainG.f ad).bind fun az=>(if az=true then(if al=true then((ratio_plainG.f ai).bind fun ap=>(ratio_Parse.j0 k a0 ad ai al (!ap))) else(ratio_Parse.j0 k a0 ad ai al false)) else(ratio_Parse.j0 k a0 ad ai al true)))=some (r1,r2,r3,r4):=H
 have A3:=Aside0.mk A30
 clear A30
 have HC4:=Aside0.mk H
 clear H
 go_enter Tryz.func33,Tryz.ntmps33
 go_upto_region 2 with(first|(refine gd 2 rfl ?_;refine kbe 2 #[.bool false,.slice none 0 0,.slice none 0 0] 27 ?_;intro ab hg w5 hbox hb;have aa:=Aside0.mk (hbox);have cW:=kbz hg HB;have af:=kbz hg HB;replace HB:=kbs HB hb;clear hb hbox hg)|((with_reducible refine gate_callee (f:=93) rfl ?_);refine kgl (some 13) rfl rfl Tryz.func93 #[.string a0,.string (⟨#[45]⟩:ByteArray)] rfl ?_;(with_reducible refine(strings_TrimPrefixG.calls a0 (⟨#[45]⟩:ByteArray) aJ _ A2.out).mono ?_);rintro e w' ⟨rfl,⟨nd,rfl⟩⟩;refine⟨_,rfl,?_⟩)|((with_reducible refine gate_callee (f:=92) rfl ?_);refine kgl (some 14) rfl rfl Tryz.func92 #[.string aJ,.string (⟨#[47]⟩:ByteArray)] rfl ?_;(with_reducible refine(strings_CutG.calls aJ (⟨#[47]⟩:ByteArray) ad ai al _ A3.out).mono ?_);rintro e w' ⟨rfl,⟨nd,rfl⟩⟩;refine⟨_,rfl,?_⟩))
 (try simp only[Act.put,kss])
 go_cut [28] (fun v28 wc=>∃(kq:Nat) (aS:Bool),v28=.bool aS∧Aside0 (ratio_Parse.j0 kq a0 ad ai al aS=some (r1,r2,r3,r4))∧Aside0 (kq≤k)∧Aside0 (wc.heap[ab]? = some (.cells #[.bool false,(.slice none 0 0),(.slice none 0 0)] 27 (0,0)))∧Aside0 (Below w.heap.size w wc))
 case first=>
  have H:=HC4.out
  clear HC4
  replace H:=Option.bind_eq_some_iff.mp H
  obtain⟨az,A60,H⟩:=H
  replace H:(if az=true then(if al=true then((ratio_plainG.f ai).bind fun ap=>(ratio_Parse.j0 k a0 ad ai al (!ap))) else(ratio_Parse.j0 k a0 ad ai al false)) else(ratio_Parse.j0 k a0 ad ai al true))=some (r1,r2,r3,r4):=H
  have A6:=Aside0.mk A60
  clear A60
  by_cases c7:az=true
  ·subst c7
   have H1:(if al=true then((ratio_plainG.f ai).bind fun ap=>(ratio_Parse.j0 k a0 ad ai al (!ap))) else(ratio_Parse.j0 k a0 ad ai al false))=some (r1,r2,r3,r4):=by rw[if_pos rfl]at H;exact H
   clear H
   have H:=H1
   clear H1
   by_cases c8:al=true
   ·subst c8
    have H1:((ratio_plainG.f ai).bind fun ap=>(ratio_Parse.j0 k a0 ad ai true (!ap)))=some (r1,r2,r3,r4):=by rw[if_pos rfl]at H;exact H
    clear H
    have H:=H1
    clear H1
    replace H:=Option.bind_eq_some_iff.mp H
    obtain⟨ap,A90,H⟩:=H
    replace H:(ratio_Parse.j0 k a0 ad ai true (!ap))=some (r1,r2,r3,r4):=H
    have A9:=Aside0.mk A90
    clear A90
    have H':=Aside0.mk H
    clear H
    go_wp2_with (first|((with_reducible refine gate_callee (f:=94) rfl ?_);refine kgl (some 19) rfl rfl Tryz.func94 #[.string ad] rfl ?_;(with_reducible refine(ratio_plainG.calls ad true _ A6.out).mono ?_);rintro e w10 ⟨rfl,hb⟩;refine⟨_,rfl,?_⟩;replace aa:=kbb aa hb;replace HB:=kbs HB hb;(try clear hb);(try clear hb2);(try clear hk);(try clear hi))|(go_at_call 94;(with_reducible refine(ratio_plainG.calls ai ap _ A9.out).mono ?_);rintro e w11 ⟨rfl,hb⟩;replace aa:=kbb aa hb;replace HB:=kbs HB hb;(try clear hb);(try clear hb2);(try clear hk);(try clear hi)))
    go_meet
    case rel=>exact⟨_,(!ap),Y0,H',⟨F5⟩,⟨by(with_reducible repeat (first|refine blk_drewN ?_ _|refine blk_drew ?_|refine blk_alloc ?_ _));exact aa.out⟩,⟨by repeat (first|(with_reducible first|exact HB.out|apply below_alloc|apply pw_below_drewN|apply below_drew1|refine below_set ?_ af.out)|exact HB.out)⟩⟩
   replace c8:=Bool.eq_false_iff.mpr c8
   subst c8
   have H1:(ratio_Parse.j0 k a0 ad ai false false)=some (r1,r2,r3,r4):=by rw[if_neg (show ¬(false=true) by decide)]at H;exact H
   clear H
   have H:=H1
   clear H1
   have H':=Aside0.mk H
   clear H
   go_wp2_with (first|((with_reducible refine gate_callee (f:=94) rfl ?_);refine kgl (some 19) rfl rfl Tryz.func94 #[.string ad] rfl ?_;(with_reducible refine(ratio_plainG.calls ad true _ A6.out).mono ?_);rintro e w12 ⟨rfl,hb⟩;refine⟨_,rfl,?_⟩;replace aa:=kbb aa hb;replace HB:=kbs HB hb;(try clear hb);(try clear hb2);(try clear hk);(try clear hi)))
   go_meet
   case rel=>exact⟨_,(false),Y0,H',⟨F5⟩,⟨by(with_reducible repeat (first|refine blk_drewN ?_ _|refine blk_drew ?_|refine blk_alloc ?_ _));exact aa.out⟩,⟨by repeat (first|(with_reducible first|exact HB.out|apply below_alloc|apply pw_below_drewN|apply below_drew1|refine below_set ?_ af.out)|exact HB.out)⟩⟩
  replace c7:=Bool.eq_false_iff.mpr c7
  subst c7
  have H1:(ratio_Parse.j0 k a0 ad ai al true)=some (r1,r2,r3,r4):=by rw[if_neg (show ¬(false=true) by decide)]at H;exact H
  clear H
  have H:=H1
  clear H1
  have H':=Aside0.mk H
  clear H
  go_wp2_with (first|((with_reducible refine gate_callee (f:=94) rfl ?_);refine kgl (some 19) rfl rfl Tryz.func94 #[.string ad] rfl ?_;(with_reducible refine(ratio_plainG.calls ad false _ A6.out).mono ?_);rintro e w13 ⟨rfl,hb⟩;refine⟨_,rfl,?_⟩;replace aa:=kbb aa hb;replace HB:=kbs HB hb;(try clear hb);(try clear hb2);(try clear hk);(try clear hi)))
  go_meet
  case rel=>exact⟨_,(true),Y0,H',⟨F5⟩,⟨by(with_reducible repeat (first|refine blk_drewN ?_ _|refine blk_drew ?_|refine blk_alloc ?_ _));exact aa.out⟩,⟨by repeat (first|(with_reducible first|exact HB.out|apply below_alloc|apply pw_below_drewN|apply below_drew1|refine below_set ?_ af.out)|exact HB.out)⟩⟩
 case rest=>
  clear HC4
  try clear p2
  try clear c3
  try clear c7
  try clear c8
  try clear c9
  obtain⟨kq,aS,rfl,HA,HJ3,aa,HB⟩:=hcut
  cases kq with
  | zero=>exact absurd HA.out (by simp[ratio_Parse.j0])
  | succ kj3=>
   have H:=HA.out
   clear HA
   simp only[ratio_Parse.j0]at H
   by_cases c14:aS=true
   ·subst c14
    have H1:(some (false,([]:List Int),([]:List Int),13))=some (r1,r2,r3,r4):=by rw[if_pos rfl]at H;exact H
    clear H
    have H:=H1
    clear H1
    simp only[Option.some.injEq,Prod.mk.injEq]at H
    obtain⟨rfl,rfl,rfl,rfl⟩:=H
    have aK:wc.cell? ⟨ab,0,none⟩=some (.bool false):=(blk_cell aa.out 0).trans rfl
    have aL:wc.cell? ⟨ab,1,none⟩=some (.slice none 0 0):=(blk_cell aa.out 1).trans rfl
    have aM:wc.cell? ⟨ab,2,none⟩=some (.slice none 0 0):=(blk_cell aa.out 2).trans rfl
    have aN:=blk_frozen aa.out 0
    have aO:=blk_frozen aa.out 1
    have aP:=blk_frozen aa.out 2
    go_wp2
    refine bodyPost_ret (results_ct rfl _ _ ab 27 #[.bool false,.slice none 0 0,.slice none 0 0] (0,0) _ rfl (kpu #[.bool false,.slice none 0 0,.slice none 0 0] 2 (kpu #[.bool false,.slice none 0 0,.slice none 0 0] 1 (kpu #[.bool false,.slice none 0 0,.slice none 0 0] 0 (kbu aa.out)))) Tryz.underlying27 rfl X0) rfl ?_
    exact⟨_,_,B0,D0,D0,by repeat (first|(with_reducible first|exact HB.out|apply below_alloc|apply pw_below_drewN|apply below_drew1|refine below_set ?_ af.out)|exact HB.out)⟩
   replace c14:=Bool.eq_false_iff.mpr c14
   subst c14
   have H1:(if al=true then(ratio_Parse.j1 kj3 a0 ad ai) else(ratio_Parse.j1 kj3 a0 ad (⟨#[49]⟩:ByteArray)))=some (r1,r2,r3,r4):=by rw[if_neg (show ¬(false=true) by decide)]at H;exact H
   clear H
   have H:=H1
   clear H1
   have bk:=Aside0.mk H
   clear H
   go_upto_if 31 with(fail)
   go_cut [5] (fun v5 wc=>∃(kq:Nat) (aC:ByteArray),v5=.string aC∧Aside0 (ratio_Parse.j1 kq a0 ad aC=some (r1,r2,r3,r4))∧Aside0 (kq≤kj3)∧Aside0 (wc.heap[ab]? = some (.cells #[.bool false,(.slice none 0 0),(.slice none 0 0)] 27 (0,0)))∧Aside0 (Below w.heap.size w wc))
   case first=>
    have H:=bk.out
    clear bk
    by_cases c17:al=true
    ·subst c17
     have H1:(ratio_Parse.j1 kj3 a0 ad ai)=some (r1,r2,r3,r4):=by rw[if_pos rfl]at H;exact H
     clear H
     have H:=H1
     clear H1
     have H':=Aside0.mk H
     clear H
     go_wp2
     go_meet
     case rel=>exact⟨_,(ai),Y0,H',⟨by have:=HJ3.out;first|omega|exact Nat.le_refl _⟩,⟨by(with_reducible repeat (first|refine blk_drewN ?_ _|refine blk_drew ?_|refine blk_alloc ?_ _));exact aa.out⟩,⟨by repeat (first|(with_reducible first|exact HB.out|apply below_alloc|apply pw_below_drewN|apply below_drew1|refine below_set ?_ af.out)|exact HB.out)⟩⟩
    replace c17:=Bool.eq_false_iff.mpr c17
    subst c17
    have H1:(ratio_Parse.j1 kj3 a0 ad (⟨#[49]⟩:ByteArray))=some (r1,r2,r3,r4):=by rw[if_neg (show ¬(false=true) by decide)]at H;exact H
    clear H
    have H:=H1
    clear H1
    have H':=Aside0.mk H
    clear H
    go_wp2
    go_meet
    case rel=>exact⟨_,((⟨#[49]⟩:ByteArray)),Y0,H',⟨by have:=HJ3.out;first|omega|exact Nat.le_refl _⟩,⟨by(with_reducible repeat (first|refine blk_drewN ?_ _|refine blk_drew ?_|refine blk_alloc ?_ _));exact aa.out⟩,⟨by repeat (first|(with_reducible first|exact HB.out|apply below_alloc|apply pw_below_drewN|apply below_drew1|refine below_set ?_ af.out)|exact HB.out)⟩⟩
   case rest=>
    clear bk
    try clear c1
    try clear p2
    try clear c3
    try clear c7
    try clear c8
    try clear c9
    try clear c14
    try clear c17
    try clear aK
    try clear aL
    try clear aM
    try clear aN
    try clear aO
    try clear aP
    try clear p2
    obtain⟨kq,aC,rfl,HA,HJ15,aa,HB⟩:=hcut
    cases kq with
    | zero=>exact absurd HA.out (by simp[ratio_Parse.j1])
    | succ aA=>
     have H:=HA.out
     clear HA
     simp only[ratio_Parse.j1]at H
     replace H:=Option.bind_eq_some_iff.mp H
     obtain⟨⟨t863,t864,aB⟩,bS,H⟩:=H
     replace H:((whole_Parse.f aA aC).bind fun aF=>(if aB=0 then(ratio_Parse.j2 aA a0 (aF.2.2 != 0) t863 t864 aF.1 aF.2.1) else(ratio_Parse.j2 aA a0 true t863 t864 aF.1 aF.2.1)))=some (r1,r2,r3,r4):=H
     have A18:=Aside0.mk bS
     clear bS
     replace H:=Option.bind_eq_some_iff.mp H
     obtain⟨⟨t869,t870,bl⟩,bT,H⟩:=H
     replace H:(if aB=0 then(ratio_Parse.j2 aA a0 (bl != 0) t863 t864 t869 t870) else(ratio_Parse.j2 aA a0 true t863 t864 t869 t870))=some (r1,r2,r3,r4):=H
     have A19:=Aside0.mk bT
     clear bT
     have bn:=Aside0.mk H
     clear H
     go_upto_region 8 with(first|((with_reducible refine gate_callee (f:=28) rfl ?_);refine kgl (some 34) rfl rfl Tryz.func28 #[.string ad] rfl ?_;(with_reducible refine(whole_Parse.calls aA ad t863 t864 aB _ A18.out).mono ?_);rintro e w21 ⟨dP,rfl,ho0,hb⟩;refine⟨_,rfl,?_⟩;have HO866:=Aside0.mk (Kd.R_lower ho0 (below_size (khu HB.out)));replace aa:=kbb aa hb;replace HB:=kbs HB hb;(try clear hb);(try clear hb2);(try clear hk);(try clear hi);(try clear ho0))|(refine gd 7 rfl ?_;refine kbe 7 #[.bool false,.slice none 0 0] 25 ?_;intro gb868 hg w22 hbox hb;replace HO866:=krb HO866 hb;have BK868:=Aside0.mk (hbox);have cX:=kbz hg HB;have ao:=kbz hg HB;replace HB:=kbs HB hb;have ae:=knl hg aa;have am:=kng hg aa;replace aa:=kbb aa hb;clear hb hbox hg;have cY:=am.out;have cZ:=ae.out;have aV:w22.cell? ⟨gb868,0,none⟩=some (.bool false):=(blk_cell BK868.out 0).trans rfl;have aW:w22.cell? ⟨gb868,1,none⟩=some (.slice none 0 0):=(blk_cell BK868.out 1).trans rfl;have aX:=blk_frozen BK868.out 0;have aY:=blk_frozen BK868.out 1;obtain⟨Ao25,co25,cc⟩:=Kd.R_slice HO866.out;subst cc)|((with_reducible refine gate_callee (f:=28) rfl ?_);refine kgl (some 39) rfl rfl Tryz.func28 #[.string aC] rfl ?_;(with_reducible refine(whole_Parse.calls aA aC t869 t870 bl _ A19.out).mono ?_);rintro e w26 ⟨dQ,rfl,ho0,hb⟩;refine⟨_,rfl,?_⟩;have HO872:=Aside0.mk (Kd.R_lower (Kd.R_new' ho0 (Kd.R_lt Z6)) (below_size (by repeat (first|(with_reducible first|exact HB.out|apply below_alloc|apply pw_below_drewN|apply below_drew1|refine below_set ?_ af.out|refine below_set ?_ ao.out)|exact HB.out))));replace HO866:=Aside0.mk (Kd.R_elder' Z6 (Kd.R_base ho0) hb);replace aa:=Aside0.mk (blk_below (g:=ab) (o:=.cells #[.bool false,.slice none 0 0,.slice none 0 0] 27 (0,0)) (kfa ae (kfa ae (kbu aa.out))) hb);replace BK868:=Aside0.mk (blk_below (g:=gb868) (o:=.cells #[.bool t863,.slice Ao25 t864.length co25] 25 (0,0)) (kpu #[.bool t863,.slice none 0 0] 1 (kpu #[.bool false,.slice none 0 0] 0 (kbu BK868.out))) hb);replace HB:=Aside0.mk (below_step (by repeat (first|(with_reducible first|exact HB.out|apply below_alloc|apply pw_below_drewN|apply below_drew1|refine below_set ?_ af.out|refine below_set ?_ ao.out)|exact HB.out)) hb);(try clear hb);(try clear hb2);(try clear hk);(try clear hi);(try clear ho0))|(refine gd 9 rfl ?_;refine kbe 9 #[.bool false,.slice none 0 0] 25 ?_;intro gb874 hg w27 hbox hb;replace HO866:=krb HO866 hb;replace HO872:=krb HO872 hb;have BK874:=Aside0.mk (hbox);have da:=kbz hg HB;have au:=kbz hg HB;replace HB:=kbs HB hb;have ah:=knl hg aa;have ar:=kng hg aa;replace aa:=kbb aa hb;have aj:=knl hg BK868;have an:=kng hg BK868;replace BK868:=kbb BK868 hb;clear hb hbox hg;have db:=ar.out;have dc:=ah.out;have dd:=an.out;have de:=aj.out;have aZ:w27.cell? ⟨gb874,0,none⟩=some (.bool false):=(blk_cell BK874.out 0).trans rfl;have bb:w27.cell? ⟨gb874,1,none⟩=some (.slice none 0 0):=(blk_cell BK874.out 1).trans rfl;have bc:=blk_frozen BK874.out 0;have bd:=blk_frozen BK874.out 1;obtain⟨Ao31,co31,cd⟩:=Kd.R_slice HO872.out;subst cd))
     (try simp only[Act.put,kss])
     go_cut [47] (fun v47 wc=>∃(kq:Nat) (aG:Bool),v47=.bool aG∧Aside0 (ratio_Parse.j2 kq a0 aG t863 t864 t869 t870=some (r1,r2,r3,r4))∧Aside0 (kq≤aA)∧Aside0 (Kd.R (Kd.int .u64) 91 wc w.heap.size (fun k_=>some k_≠((.slice Ao31 t870.length co31):Value).ownBlock) (.slice Ao25 t864.length co25) t864)∧Aside0 (Kd.R (Kd.int .u64) 91 wc w.heap.size (fun k_=>some k_≠((.slice Ao25 t864.length co25):Value).ownBlock) (.slice Ao31 t870.length co31) t870)∧Aside0 (wc.heap[ab]? = some (.cells #[.bool false,(.slice none 0 0),(.slice none 0 0)] 27 (0,0)))∧Aside0 (wc.heap[gb868]? = some (.cells #[.bool t863,(.slice Ao25 t864.length co25)] 25 (0,0)))∧Aside0 (wc.heap[gb874]? = some (.cells #[.bool t869,(.slice Ao31 t870.length co31)] 25 (0,0)))∧Aside0 (Below w.heap.size w wc))
     case first=>
      have H:=bn.out
      clear bn
      by_cases c32:aB=0
      ·rw[if_pos c32]at H
       have ax:(aB==0)=true:=beq_iff_eq.mpr c32
       have aH:(aB != 0)=false:=bne_eq_false_iff_eq.mpr c32
       clear c32
       (first|rw[ax]|rw[aH]|(simp only[i64_w,i32_w];rw[ax])|skip)
       have H':=Aside0.mk H
       clear H
       go_wp2
       go_meet
       case rel=>exact⟨_,((bl != 0)),Y0,H',⟨by have:=HJ3.out;have:=HJ15.out;first|omega|exact Nat.le_refl _⟩,⟨X6⟩,⟨Y6⟩,⟨by(with_reducible repeat (first|refine blk_drewN ?_ _|refine blk_drew ?_|refine blk_alloc ?_ _));refine blk_far ?_ ah.out _;(with_reducible repeat (first|refine blk_drewN ?_ _|refine blk_drew ?_|refine blk_alloc ?_ _));refine blk_far ?_ ah.out _;(with_reducible repeat (first|refine blk_drewN ?_ _|refine blk_drew ?_|refine blk_alloc ?_ _));exact aa.out⟩,⟨by(with_reducible repeat (first|refine blk_drewN ?_ _|refine blk_drew ?_|refine blk_alloc ?_ _));refine blk_far ?_ aj.out _;(with_reducible repeat (first|refine blk_drewN ?_ _|refine blk_drew ?_|refine blk_alloc ?_ _));refine blk_far ?_ aj.out _;(with_reducible repeat (first|refine blk_drewN ?_ _|refine blk_drew ?_|refine blk_alloc ?_ _));exact BK868.out⟩,⟨by(with_reducible repeat (first|refine blk_drewN ?_ _|refine blk_drew ?_|refine blk_alloc ?_ _));refine blk_put (cs:=#[.bool t869,.slice none 0 0]) ?_ 1 _ rfl;(with_reducible repeat (first|refine blk_drewN ?_ _|refine blk_drew ?_|refine blk_alloc ?_ _));refine blk_put (cs:=#[.bool false,.slice none 0 0]) ?_ 0 _ rfl;(with_reducible repeat (first|refine blk_drewN ?_ _|refine blk_drew ?_|refine blk_alloc ?_ _));exact BK874.out⟩,⟨by repeat (first|(with_reducible first|exact HB.out|apply below_alloc|apply pw_below_drewN|apply below_drew1|refine below_set ?_ af.out|refine below_set ?_ ao.out|refine below_set ?_ au.out)|exact HB.out)⟩⟩
      rw[if_neg c32]at H
      have ax:(aB==0)=false:=beq_eq_false_iff_ne.mpr c32
      have aH:(aB != 0)=true:=bne_iff_ne.mpr c32
      (first|rw[ax]|rw[aH]|(simp only[i64_w,i32_w];rw[ax])|skip)
      have H':=Aside0.mk H
      clear H
      go_wp2
      go_meet
      case rel=>exact⟨_,(true),Y0,H',⟨by have:=HJ3.out;have:=HJ15.out;first|omega|exact Nat.le_refl _⟩,⟨X6⟩,⟨Y6⟩,⟨by(with_reducible repeat (first|refine blk_drewN ?_ _|refine blk_drew ?_|refine blk_alloc ?_ _));refine blk_far ?_ ah.out _;(with_reducible repeat (first|refine blk_drewN ?_ _|refine blk_drew ?_|refine blk_alloc ?_ _));refine blk_far ?_ ah.out _;(with_reducible repeat (first|refine blk_drewN ?_ _|refine blk_drew ?_|refine blk_alloc ?_ _));exact aa.out⟩,⟨by(with_reducible repeat (first|refine blk_drewN ?_ _|refine blk_drew ?_|refine blk_alloc ?_ _));refine blk_far ?_ aj.out _;(with_reducible repeat (first|refine blk_drewN ?_ _|refine blk_drew ?_|refine blk_alloc ?_ _));refine blk_far ?_ aj.out _;(with_reducible repeat (first|refine blk_drewN ?_ _|refine blk_drew ?_|refine blk_alloc ?_ _));exact BK868.out⟩,⟨by(with_reducible repeat (first|refine blk_drewN ?_ _|refine blk_drew ?_|refine blk_alloc ?_ _));refine blk_put (cs:=#[.bool t869,.slice none 0 0]) ?_ 1 _ rfl;(with_reducible repeat (first|refine blk_drewN ?_ _|refine blk_drew ?_|refine blk_alloc ?_ _));refine blk_put (cs:=#[.bool false,.slice none 0 0]) ?_ 0 _ rfl;(with_reducible repeat (first|refine blk_drewN ?_ _|refine blk_drew ?_|refine blk_alloc ?_ _));exact BK874.out⟩,⟨by repeat (first|(with_reducible first|exact HB.out|apply below_alloc|apply pw_below_drewN|apply below_drew1|refine below_set ?_ af.out|refine below_set ?_ ao.out|refine below_set ?_ au.out)|exact HB.out)⟩⟩
     case rest=>
      clear bn
      try clear c1
      try clear c2
      try clear p2
      try clear c3
      try clear c7
      try clear c8
      try clear c9
      try clear c14
      try clear c17
      try clear c23
      try clear c28
      try clear c29
      try clear c32
      try clear ax
      try clear aH
      try clear aK
      try clear aL
      try clear aM
      try clear aV
      try clear aW
      try clear aZ
      try clear bb
      try clear aN
      try clear aO
      try clear aP
      try clear aX
      try clear aY
      try clear bc
      try clear bd
      try clear p2
      obtain⟨kq,aG,rfl,HA,HJ19,HO_869001,HO_875001,aa,BK868,BK874,HB⟩:=hcut
      cases kq with
      | zero=>exact absurd HA.out (by simp[ratio_Parse.j2])
      | succ aq=>
       have H:=HA.out
       clear HA
       simp only[ratio_Parse.j2]at H
       by_cases c33:aG=true
       ·subst c33
        have H1:(some (false,([]:List Int),([]:List Int),5))=some (r1,r2,r3,r4):=by rw[if_pos rfl]at H;exact H
        clear H
        have H:=H1
        clear H1
        simp only[Option.some.injEq,Prod.mk.injEq]at H
        obtain⟨rfl,rfl,rfl,rfl⟩:=H
        have df:=ae.out
        have dg:=am.out
        have dh:=ah.out
        have di:=ar.out
        have bA:wc.cell? ⟨ab,0,none⟩=some (.bool false):=(blk_cell aa.out 0).trans rfl
        have bB:wc.cell? ⟨ab,1,none⟩=some (.slice none 0 0):=(blk_cell aa.out 1).trans rfl
        have bC:wc.cell? ⟨ab,2,none⟩=some (.slice none 0 0):=(blk_cell aa.out 2).trans rfl
        have bD:=blk_frozen aa.out 0
        have bE:=blk_frozen aa.out 1
        have bF:=blk_frozen aa.out 2
        go_wp2
        refine bodyPost_ret (results_ct rfl _ _ ab 27 #[.bool false,.slice none 0 0,.slice none 0 0] (0,0) _ rfl (kpu #[.bool false,.slice none 0 0,.slice none 0 0] 2 (kpu #[.bool false,.slice none 0 0,.slice none 0 0] 1 (kpu #[.bool false,.slice none 0 0,.slice none 0 0] 0 (kbu aa.out)))) Tryz.underlying27 rfl X0) rfl ?_
        exact⟨_,_,B0,D0,D0,by repeat (first|(with_reducible first|exact HB.out|apply below_alloc|apply pw_below_drewN|apply below_drew1|refine below_set ?_ af.out|refine below_set ?_ ao.out|refine below_set ?_ au.out)|exact HB.out)⟩
       replace c33:=Bool.eq_false_iff.mpr c33
       subst c33
       have H1:((ratio_number_long.f aq t863 t864).bind fun be=>(if be=true then(ratio_Parse.j3 aq a0 true t863 t864 t869 t870) else((ratio_number_long.f aq t869 t870).bind fun ay=>(ratio_Parse.j3 aq a0 ay t863 t864 t869 t870))))=some (r1,r2,r3,r4):=by rw[if_neg (show ¬(false=true) by decide)]at H;exact H
       clear H
       have H:=H1
       clear H1
       have bo:=Aside0.mk H
       clear H
       go_upto_region 10 with(fail)
       go_cut [56] (fun v56 wc=>∃(kq:Nat) (aI:Bool),v56=.bool aI∧Aside0 (ratio_Parse.j3 kq a0 aI t863 t864 t869 t870=some (r1,r2,r3,r4))∧Aside0 (kq≤aq)∧Aside0 (Kd.R (Kd.int .u64) 91 wc w.heap.size (fun k_=>some k_≠((.slice Ao31 t870.length co31):Value).ownBlock) (.slice Ao25 t864.length co25) t864)∧Aside0 (Kd.R (Kd.int .u64) 91 wc w.heap.size (fun k_=>some k_≠((.slice Ao25 t864.length co25):Value).ownBlock) (.slice Ao31 t870.length co31) t870)∧Aside0 (wc.heap[ab]? = some (.cells #[.bool false,(.slice none 0 0),(.slice none 0 0)] 27 (0,0)))∧Aside0 (wc.heap[gb868]? = some (.cells #[.bool t863,(.slice Ao25 t864.length co25)] 25 (0,0)))∧Aside0 (wc.heap[gb874]? = some (.cells #[.bool t869,(.slice Ao31 t870.length co31)] 25 (0,0)))∧Aside0 (Below w.heap.size w wc))
       case first=>
        have H:=bo.out
        clear bo
        replace H:=Option.bind_eq_some_iff.mp H
        obtain⟨be,bU,H⟩:=H
        replace H:(if be=true then(ratio_Parse.j3 aq a0 true t863 t864 t869 t870) else((ratio_number_long.f aq t869 t870).bind fun ay=>(ratio_Parse.j3 aq a0 ay t863 t864 t869 t870)))=some (r1,r2,r3,r4):=H
        have A38:=Aside0.mk bU
        clear bU
        by_cases c39:be=true
        ·subst c39
         have H1:(ratio_Parse.j3 aq a0 true t863 t864 t869 t870)=some (r1,r2,r3,r4):=by rw[if_pos rfl]at H;exact H
         clear H
         have H:=H1
         clear H1
         have H':=Aside0.mk H
         clear H
         have dj:=am.out
         have dk:=ae.out
         have dm:=aj.out
         have dn:=an.out
         have bG:wc.cell? ⟨gb868,0,none⟩=some (.bool t863):=(blk_cell BK868.out 0).trans rfl
         have bH:wc.cell? ⟨gb868,1,none⟩=some (.slice Ao25 t864.length co25):=(blk_cell BK868.out 1).trans rfl
         have bI:=blk_frozen BK868.out 0
         have bJ:=blk_frozen BK868.out 1
         go_wp2_with (first|((with_reducible refine gate_callee (f:=51) rfl ?_);refine kgl (some 51) rfl rfl Tryz.func51 #[.agg #[.bool t863,.slice Ao25 t864.length co25]] rfl ?_;(with_reducible refine(ratio_number_long.calls aq t863 _ _ t864 true _ ?side1 ?side2 A38.out).mono ?_);(case side1=>repeat (first|exact(Kd.R_reads' HO_869001.out).2.2|(with_reducible refine Kd.C_alloc ?_ _)|(with_reducible refine Kd.C_drewN ?_ _)|(with_reducible refine Kd.C_drew ?_)));(case side2=>exact(Kd.R_reads' HO_869001.out).2.1);rintro e w43 ⟨rfl,hb⟩;refine⟨_,rfl,?_⟩;replace HO_869001:=krb HO_869001 hb;replace HO_875001:=krb HO_875001 hb;replace aa:=kbb aa hb;replace BK868:=kbb BK868 hb;replace BK874:=kbb BK874 hb;replace HB:=kbs HB hb;(try clear hb);(try clear hb2);(try clear hk);(try clear hi)))
         go_meet
         case rel=>exact⟨_,(true),Y0,H',⟨B9⟩,⟨kru HO_869001.out⟩,⟨kru HO_875001.out⟩,⟨by(with_reducible repeat (first|refine blk_drewN ?_ _|refine blk_drew ?_|refine blk_alloc ?_ _));exact aa.out⟩,⟨by(with_reducible repeat (first|refine blk_drewN ?_ _|refine blk_drew ?_|refine blk_alloc ?_ _));exact BK868.out⟩,⟨by(with_reducible repeat (first|refine blk_drewN ?_ _|refine blk_drew ?_|refine blk_alloc ?_ _));exact BK874.out⟩,⟨by repeat (first|(with_reducible first|exact HB.out|apply below_alloc|apply pw_below_drewN|apply below_drew1|refine below_set ?_ af.out|refine below_set ?_ ao.out|refine below_set ?_ au.out)|exact HB.out)⟩⟩
        replace c39:=Bool.eq_false_iff.mpr c39
        subst c39
        have H1:((ratio_number_long.f aq t869 t870).bind fun ay=>(ratio_Parse.j3 aq a0 ay t863 t864 t869 t870))=some (r1,r2,r3,r4):=by rw[if_neg (show ¬(false=true) by decide)]at H;exact H
        clear H
        have H:=H1
        clear H1
        replace H:=Option.bind_eq_some_iff.mp H
        obtain⟨ay,bV,H⟩:=H
        replace H:(ratio_Parse.j3 aq a0 ay t863 t864 t869 t870)=some (r1,r2,r3,r4):=H
        have A44:=Aside0.mk bV
        clear bV
        have H':=Aside0.mk H
        clear H
        have dp:=am.out
        have dq:=ae.out
        have dr:=aj.out
        have ds:=an.out
        have bK:wc.cell? ⟨gb868,0,none⟩=some (.bool t863):=(blk_cell BK868.out 0).trans rfl
        have bL:wc.cell? ⟨gb868,1,none⟩=some (.slice Ao25 t864.length co25):=(blk_cell BK868.out 1).trans rfl
        have bM:=blk_frozen BK868.out 0
        have bN:=blk_frozen BK868.out 1
        go_wp2_with (first|((with_reducible refine gate_callee (f:=51) rfl ?_);refine kgl (some 51) rfl rfl Tryz.func51 #[.agg #[.bool t863,.slice Ao25 t864.length co25]] rfl ?_;(with_reducible refine(ratio_number_long.calls aq t863 _ _ t864 false _ ?side1 ?side2 A38.out).mono ?_);(case side1=>repeat (first|exact(Kd.R_reads' HO_869001.out).2.2|(with_reducible refine Kd.C_alloc ?_ _)|(with_reducible refine Kd.C_drewN ?_ _)|(with_reducible refine Kd.C_drew ?_)));(case side2=>exact(Kd.R_reads' HO_869001.out).2.1);rintro e w48 ⟨rfl,hb⟩;refine⟨_,rfl,?_⟩;replace HO_869001:=krb HO_869001 hb;replace HO_875001:=krb HO_875001 hb;replace aa:=kbb aa hb;replace BK868:=kbb BK868 hb;replace BK874:=kbb BK874 hb;replace HB:=kbs HB hb;(try clear hb);(try clear hb2);(try clear hk);(try clear hi);have dt:=ar.out;have du:=ah.out;have bO:w48.cell? ⟨gb874,0,none⟩=some (.bool t869):=(blk_cell BK874.out 0).trans rfl;have bP:w48.cell? ⟨gb874,1,none⟩=some (.slice Ao31 t870.length co31):=(blk_cell BK874.out 1).trans rfl;have bQ:=blk_frozen BK874.out 0;have bR:=blk_frozen BK874.out 1)|(go_at_call 51;(with_reducible refine(ratio_number_long.calls aq t869 _ _ t870 ay _ ?side1 ?side2 A44.out).mono ?_);(case side1=>repeat (first|exact(Kd.R_reads' HO_875001.out).2.2|(with_reducible refine Kd.C_alloc ?_ _)|(with_reducible refine Kd.C_drewN ?_ _)|(with_reducible refine Kd.C_drew ?_)));(case side2=>exact(Kd.R_reads' HO_875001.out).2.1);rintro e w51 ⟨rfl,hb⟩;replace HO_869001:=krb HO_869001 hb;replace HO_875001:=krb HO_875001 hb;replace aa:=kbb aa hb;replace BK868:=kbb BK868 hb;replace BK874:=kbb BK874 hb;replace HB:=kbs HB hb;(try clear hb);(try clear hb2);(try clear hk);(try clear hi)))
        go_meet
        case rel=>exact⟨_,(ay),Y0,H',⟨B9⟩,⟨kru HO_869001.out⟩,⟨kru HO_875001.out⟩,⟨by(with_reducible repeat (first|refine blk_drewN ?_ _|refine blk_drew ?_|refine blk_alloc ?_ _));exact aa.out⟩,⟨by(with_reducible repeat (first|refine blk_drewN ?_ _|refine blk_drew ?_|refine blk_alloc ?_ _));exact BK868.out⟩,⟨by(with_reducible repeat (first|refine blk_drewN ?_ _|refine blk_drew ?_|refine blk_alloc ?_ _));exact BK874.out⟩,⟨by repeat (first|(with_reducible first|exact HB.out|apply below_alloc|apply pw_below_drewN|apply below_drew1|refine below_set ?_ af.out|refine below_set ?_ ao.out|refine below_set ?_ au.out)|exact HB.out)⟩⟩
       case rest=>
        clear bo
        try clear c1
        try clear c2
        try clear p2
        try clear c3
        try clear c4
        try clear c5
        try clear c7
        try clear c8
        try clear c9
        try clear c14
        try clear c17
        try clear c23
        try clear c28
        try clear c29
        try clear c32
        try clear ax
        try clear aH
        try clear c33
        try clear c34
        try clear c35
        try clear c39
        try clear c40
        try clear c41
        try clear c45
        try clear c46
        try clear c49
        try clear c51
        try clear aK
        try clear aL
        try clear aM
        try clear aV
        try clear aW
        try clear aZ
        try clear bb
        try clear bA
        try clear bB
        try clear bC
        try clear bG
        try clear bH
        try clear bK
        try clear bL
        try clear bO
        try clear bP
        try clear aN
        try clear aO
        try clear aP
        try clear aX
        try clear aY
        try clear bc
        try clear bd
        try clear bD
        try clear bE
        try clear bF
        try clear bI
        try clear bJ
        try clear bM
        try clear bN
        try clear bQ
        try clear bR
        try clear p2
        obtain⟨kq,aI,rfl,HA,dR,HO_869001,HO_875001,aa,BK868,BK874,HB⟩:=hcut
        cases kq with
        | zero=>exact absurd HA.out (by simp[ratio_Parse.j3])
        | succ av=>
         have H:=HA.out
         clear HA
         simp only[ratio_Parse.j3]at H
         by_cases c52:aI=true
         ·subst c52
          have H1:(some (false,([]:List Int),([]:List Int),5))=some (r1,r2,r3,r4):=by rw[if_pos rfl]at H;exact H
          clear H
          have H:=H1
          clear H1
          simp only[Option.some.injEq,Prod.mk.injEq]at H
          obtain⟨rfl,rfl,rfl,rfl⟩:=H
          have dw:=ae.out
          have dx:=am.out
          have dy:=ah.out
          have dz:=ar.out
          have cj:wc.cell? ⟨ab,0,none⟩=some (.bool false):=(blk_cell aa.out 0).trans rfl
          have ck:wc.cell? ⟨ab,1,none⟩=some (.slice none 0 0):=(blk_cell aa.out 1).trans rfl
          have cl:wc.cell? ⟨ab,2,none⟩=some (.slice none 0 0):=(blk_cell aa.out 2).trans rfl
          have cm:=blk_frozen aa.out 0
          have cn:=blk_frozen aa.out 1
          have co:=blk_frozen aa.out 2
          go_wp2
          refine bodyPost_ret (results_ct rfl _ _ ab 27 #[.bool false,.slice none 0 0,.slice none 0 0] (0,0) _ rfl (kpu #[.bool false,.slice none 0 0,.slice none 0 0] 2 (kpu #[.bool false,.slice none 0 0,.slice none 0 0] 1 (kpu #[.bool false,.slice none 0 0,.slice none 0 0] 0 (kbu aa.out)))) Tryz.underlying27 rfl X0) rfl ?_
          exact⟨_,_,B0,D0,D0,by repeat (first|(with_reducible first|exact HB.out|apply below_alloc|apply pw_below_drewN|apply below_drew1|refine below_set ?_ af.out|refine below_set ?_ ao.out|refine below_set ?_ au.out)|exact HB.out)⟩
         replace c52:=Bool.eq_false_iff.mpr c52
         subst c52
         have H1:((strings_HasPrefixG.f a0 (⟨#[45]⟩:ByteArray)).bind fun bf=>(if bf=true then((whole_Neg.f av t863 t864).bind fun aw=>((ratio_Of.f av aw.1 aw.2 t869 t870).bind fun ag=>(some (ag.1,ag.2.1,ag.2.2.1,ag.2.2.2)))) else((ratio_Of.f av t863 t864 t869 t870).bind fun ak=>(some (ak.1,ak.2.1,ak.2.2.1,ak.2.2.2)))))=some (r1,r2,r3,r4):=by rw[if_neg (show ¬(false=true) by decide)]at H;exact H
         clear H
         have H:=H1
         clear H1
         replace H:=Option.bind_eq_some_iff.mp H
         obtain⟨bf,bW,H⟩:=H
         replace H:(if bf=true then((whole_Neg.f av t863 t864).bind fun aw=>((ratio_Of.f av aw.1 aw.2 t869 t870).bind fun ag=>(some (ag.1,ag.2.1,ag.2.2.1,ag.2.2.2)))) else((ratio_Of.f av t863 t864 t869 t870).bind fun ak=>(some (ak.1,ak.2.1,ak.2.2.1,ak.2.2.2))))=some (r1,r2,r3,r4):=H
         have A56:=Aside0.mk bW
         clear bW
         by_cases c57:bf=true
         ·subst c57
          have H1:((whole_Neg.f av t863 t864).bind fun aw=>((ratio_Of.f av aw.1 aw.2 t869 t870).bind fun ag=>(some (ag.1,ag.2.1,ag.2.2.1,ag.2.2.2))))=some (r1,r2,r3,r4):=by rw[if_pos rfl]at H;exact H
          clear H
          have H:=H1
          clear H1
          replace H:=Option.bind_eq_some_iff.mp H
          obtain⟨⟨t878,t879⟩,bX,H⟩:=H
          replace H:((ratio_Of.f av t878 t879 t869 t870).bind fun ag=>(some (ag.1,ag.2.1,ag.2.2.1,ag.2.2.2)))=some (r1,r2,r3,r4):=H
          have A58:=Aside0.mk bX
          clear bX
          replace H:=Option.bind_eq_some_iff.mp H
          obtain⟨⟨aD,aQ,aT,bY⟩,bZ,H⟩:=H
          replace H:(some (aD,aQ,aT,bY))=some (r1,r2,r3,r4):=H
          have A59:=Aside0.mk bZ
          clear bZ
          simp only[Option.some.injEq,Prod.mk.injEq]at H
          obtain⟨rfl,rfl,rfl,rfl⟩:=H
          go_wp2_with (first|((with_reducible refine gate_callee (f:=95) rfl ?_);refine kgl (some 59) rfl rfl Tryz.func95 #[.string a0,.string (⟨#[45]⟩:ByteArray)] rfl ?_;(with_reducible refine(strings_HasPrefixG.calls a0 (⟨#[45]⟩:ByteArray) true _ A56.out).mono ?_);rintro e w' ⟨rfl,⟨nd,rfl⟩⟩;refine⟨_,rfl,?_⟩;(try(rw[drewN_self wc];generalize hq_:World.drewN wc _=wc;have n0_:Aside0 (Kd.R (Kd.int .u64) 91 wc w.heap.size (fun k_=>some k_≠(.slice Ao31 t870.length co31:Value).ownBlock) (.slice Ao25 t864.length co25) t864):=⟨by rw[←hq_];exact(kru HO_869001.out)⟩;have n1_:Aside0 (Kd.R (Kd.int .u64) 91 wc w.heap.size (fun k_=>some k_≠(.slice Ao25 t864.length co25:Value).ownBlock) (.slice Ao31 t870.length co31) t870):=⟨by rw[←hq_];exact(kru HO_875001.out)⟩;have n2_:Aside0 (wc.heap[ab]? = some (.cells #[.bool false,.slice none 0 0,.slice none 0 0] 27 (0,0))):=⟨by rw[←hq_];exact(kbu aa.out)⟩;have n3_:Aside0 (wc.heap[gb868]? = some (.cells #[.bool t863,.slice Ao25 t864.length co25] 25 (0,0))):=⟨by rw[←hq_];exact(kbu BK868.out)⟩;have n4_:Aside0 (wc.heap[gb874]? = some (.cells #[.bool t869,.slice Ao31 t870.length co31] 25 (0,0))):=⟨by rw[←hq_];exact(kbu BK874.out)⟩;have n5_:Aside0 (Below w.heap.size w wc):=⟨U9⟩;clear HO_869001 HO_875001 aa BK868 BK874 HB hq_;have HO_869001:=n0_;have HO_875001:=n1_;have aa:=n2_;have BK868:=n3_;have BK874:=n4_;have HB:=n5_;clear n0_ n1_ n2_ n3_ n4_ n5_));have dA:=am.out;have dB:=ae.out;have dC:=aj.out;have dD:=an.out;have cp:wc.cell? ⟨gb868,0,none⟩=some (.bool t863):=(blk_cell BK868.out 0).trans rfl;have cq:wc.cell? ⟨gb868,1,none⟩=some (.slice Ao25 t864.length co25):=(blk_cell BK868.out 1).trans rfl;have cr:=blk_frozen BK868.out 0;have ct:=blk_frozen BK868.out 1)|((with_reducible refine gate_callee (f:=52) rfl ?_);refine kgl (some 61) rfl rfl Tryz.func52 #[.agg #[.bool t863,.slice Ao25 t864.length co25]] rfl ?_;(with_reducible refine(whole_Neg.calls av t863 _ _ t864 t878 t879 _ ?side1 ?side2 A58.out).mono ?_);(case side1=>repeat (first|exact(Kd.R_reads' HO_869001.out).2.2|(with_reducible refine Kd.C_alloc ?_ _)|(with_reducible refine Kd.C_drewN ?_ _)|(with_reducible refine Kd.C_drew ?_)));(case side2=>exact(Kd.R_reads' HO_869001.out).2.1);rintro e w63 ⟨dS,rfl,ho0,hb⟩;refine⟨_,rfl,?_⟩;have HO881:=Aside0.mk (Kd.R_lower (Kd.R_new' (Kd.R_new' ho0 (Kd.R_lt (kru HO_869001.out))) (Kd.R_lt (kru HO_875001.out))) (below_size (khu HB.out)));replace HO_869001:=Aside0.mk (Kd.R_elder' (kru HO_869001.out) (Kd.R_base ho0) hb);replace HO_875001:=Aside0.mk (Kd.R_elder' (kru HO_875001.out) (Kd.R_base ho0) hb);replace aa:=kbb aa hb;replace BK868:=kbb BK868 hb;replace BK874:=kbb BK874 hb;replace HB:=kbs HB hb;(try clear hb);(try clear hb2);(try clear hk);(try clear hi);(try clear ho0);have cu:w63.cell? ⟨gb868,0,none⟩=some (.bool t863):=(blk_cell BK868.out 0).trans rfl;have cv:w63.cell? ⟨gb868,1,none⟩=some (.slice Ao25 t864.length co25):=(blk_cell BK868.out 1).trans rfl;have cw:=blk_frozen BK868.out 0;have cx:=blk_frozen BK868.out 1;obtain⟨Ao65,co65,ce⟩:=Kd.R_slice HO881.out;subst ce;have dE:=ar.out;have dF:=ah.out;have cy:w63.cell? ⟨gb874,0,none⟩=some (.bool t869):=(blk_cell BK874.out 0).trans rfl;have cz:w63.cell? ⟨gb874,1,none⟩=some (.slice Ao31 t870.length co31):=(blk_cell BK874.out 1).trans rfl;have cA:=blk_frozen BK874.out 0;have cB:=blk_frozen BK874.out 1)|((with_reducible refine gate_callee (f:=17) rfl ?_);refine kgl (some 64) rfl rfl Tryz.func17 #[.agg #[.bool t878,.slice Ao65 t879.length co65],.agg #[.bool t869,.slice Ao31 t870.length co31]] rfl ?_;(with_reducible refine(ratio_Of.calls av t878 _ _ t879 t869 _ _ t870 aD aQ aT bY _ ?side1 ?side2 ?side3 ?side4 A59.out).mono ?_);(case side1=>refine(Kd.R_reads' (e:=91) (base:=w.heap.size) (ok:=fun k_=>((True∧some k_≠(.slice Ao25 t864.length co25:Value).ownBlock)∧some k_≠(.slice Ao31 t870.length co31:Value).ownBlock)) (n:=t879.length) (c:=co65) ?_).2.2;exact X2);(case side2=>exact(Kd.R_reads' HO881.out).2.1);(case side3=>refine(Kd.R_reads' (e:=91) (base:=w.heap.size) (ok:=fun k_=>(some k_≠(.slice Ao25 t864.length co25:Value).ownBlock∧some k_≠(.slice Ao65 t879.length co65:Value).ownBlock)) (n:=t870.length) (c:=co31) ?_).2.2;exact Y2);(case side4=>exact(Kd.R_reads' HO_875001.out).2.1);rintro e w68 ⟨dT,dU,rfl,ho0,ho1,hb⟩;refine⟨_,rfl,?_⟩;have bv:=Aside0.mk (Kd.R_lower (Kd.R_new' (Kd.R_new' (Kd.R_new' ho0 (Kd.R_lt U3)) (Kd.R_lt Y2)) (Kd.R_lt X2)) (below_size (by repeat (first|(with_reducible first|exact HB.out|apply below_alloc|apply pw_below_drewN|apply below_drew1|refine below_set ?_ af.out|refine below_set ?_ ao.out|refine below_set ?_ au.out)|exact HB.out))));have bw:=Aside0.mk (Kd.R_lower (Kd.R_new' (Kd.R_new' (Kd.R_new' ho1 (Kd.R_lt U3)) (Kd.R_lt Y2)) (Kd.R_lt X2)) (below_size (by repeat (first|(with_reducible first|exact HB.out|apply below_alloc|apply pw_below_drewN|apply below_drew1|refine below_set ?_ af.out|refine below_set ?_ ao.out|refine below_set ?_ au.out)|exact HB.out))));replace HO_869001:=Aside0.mk (Kd.R_mono (Kd.R_told (Kd.R_told (Kd.R_old U3 hb) (Kd.R_base ho0)) (Kd.R_base ho1)) (fun _ h_=>h_.1));replace HO_875001:=Aside0.mk (Kd.R_mono (Kd.R_told (Kd.R_told (Kd.R_old Y2 hb) (Kd.R_base ho0)) (Kd.R_base ho1)) (fun _ h_=>h_.1));replace HO881:=Aside0.mk (Kd.R_mono (Kd.R_told (Kd.R_told (Kd.R_old X2 hb) (Kd.R_base ho0)) (Kd.R_base ho1)) (fun _ h_=>h_.1));replace aa:=Aside0.mk (blk_below (g:=ab) (o:=.cells #[.bool false,.slice none 0 0,.slice none 0 0] 27 (0,0)) (kfa ae (kfa ae (kbu aa.out))) hb);replace BK868:=Aside0.mk (blk_below (g:=gb868) (o:=.cells #[.bool t878,.slice Ao65 t879.length co65] 25 (0,0)) (kpu #[.bool t878,.slice Ao25 t864.length co25] 1 (kpu #[.bool t863,.slice Ao25 t864.length co25] 0 (kbu BK868.out))) hb);replace BK874:=Aside0.mk (blk_below (g:=gb874) (o:=.cells #[.bool t869,.slice Ao31 t870.length co31] 25 (0,0)) (kfa an (kfa an (kbu BK874.out))) hb);replace HB:=Aside0.mk (below_step (by repeat (first|(with_reducible first|exact HB.out|apply below_alloc|apply pw_below_drewN|apply below_drew1|refine below_set ?_ af.out|refine below_set ?_ ao.out|refine below_set ?_ au.out)|exact HB.out)) hb);(try clear hb);(try clear hb2);(try clear hk);(try clear hi);(try clear ho0);(try clear ho1);have cC:w68.cell? ⟨ab,0,none⟩=some (.bool false):=(blk_cell aa.out 0).trans rfl;have cD:w68.cell? ⟨ab,1,none⟩=some (.slice none 0 0):=(blk_cell aa.out 1).trans rfl;have cE:w68.cell? ⟨ab,2,none⟩=some (.slice none 0 0):=(blk_cell aa.out 2).trans rfl;have cF:=blk_frozen aa.out 0;have cG:=blk_frozen aa.out 1;have cH:=blk_frozen aa.out 2;obtain⟨bg,bh,cf⟩:=Kd.R_slice bv.out;subst cf;obtain⟨bp,bq,cg⟩:=Kd.R_slice bw.out;subst cg))
          refine bodyPost_ret (results_ct rfl _ _ ab 27 #[.bool aD,.slice bg aQ.length bh,.slice bp aT.length bq] (0,0) _ rfl (kpu #[.bool aD,.slice bg aQ.length bh,.slice none 0 0] 2 (kpu #[.bool aD,.slice none 0 0,.slice none 0 0] 1 (kpu #[.bool false,.slice none 0 0,.slice none 0 0] 0 (kbu aa.out)))) Tryz.underlying27 rfl X0) rfl ?_
          exact⟨_,_,B0,by(with_reducible repeat (first|apply Kd.R_alloc|apply Kd.R_drewN|apply Kd.R_drew));exact Kd.R_mono (Kd.R_far (p:=⟨ab,2,none⟩) (Kd.R_far (p:=⟨ab,1,none⟩) (Kd.R_far (p:=⟨ab,0,none⟩) (Kd.R_types bv.out aa.out J0) (fun _ hk=>hk.2) (.bool aD)) (fun _ hk=>hk.2) (.slice bg aQ.length bh)) (fun _ hk=>hk.2) (.slice bp aT.length bq)) (fun _ hk=>hk.1.1.1.1),by(with_reducible repeat (first|apply Kd.R_alloc|apply Kd.R_drewN|apply Kd.R_drew));exact Kd.R_mono (Kd.R_far (p:=⟨ab,2,none⟩) (Kd.R_far (p:=⟨ab,1,none⟩) (Kd.R_far (p:=⟨ab,0,none⟩) (Kd.R_types bw.out aa.out J0) (fun _ hk=>hk.2) (.bool aD)) (fun _ hk=>hk.2) (.slice bg aQ.length bh)) (fun _ hk=>hk.2) (.slice bp aT.length bq)) (fun _ hk=>hk.1.1.1.1),by repeat (first|(with_reducible first|exact HB.out|apply below_alloc|apply pw_below_drewN|apply below_drew1|refine below_set ?_ af.out|refine below_set ?_ ao.out|refine below_set ?_ au.out)|exact HB.out)⟩
         replace c57:=Bool.eq_false_iff.mpr c57
         subst c57
         have H1:((ratio_Of.f av t863 t864 t869 t870).bind fun ak=>(some (ak.1,ak.2.1,ak.2.2.1,ak.2.2.2)))=some (r1,r2,r3,r4):=by rw[if_neg (show ¬(false=true) by decide)]at H;exact H
         clear H
         have H:=H1
         clear H1
         replace H:=Option.bind_eq_some_iff.mp H
         obtain⟨⟨aE,aR,aU,ca⟩,cb,H⟩:=H
         replace H:(some (aE,aR,aU,ca))=some (r1,r2,r3,r4):=H
         have A72:=Aside0.mk cb
         clear cb
         simp only[Option.some.injEq,Prod.mk.injEq]at H
         obtain⟨rfl,rfl,rfl,rfl⟩:=H
         go_wp2_with (first|((with_reducible refine gate_callee (f:=95) rfl ?_);refine kgl (some 59) rfl rfl Tryz.func95 #[.string a0,.string (⟨#[45]⟩:ByteArray)] rfl ?_;(with_reducible refine(strings_HasPrefixG.calls a0 (⟨#[45]⟩:ByteArray) false _ A56.out).mono ?_);rintro e w' ⟨rfl,⟨nd,rfl⟩⟩;refine⟨_,rfl,?_⟩;(try(rw[drewN_self wc];generalize hq_:World.drewN wc _=wc;have n0_:Aside0 (Kd.R (Kd.int .u64) 91 wc w.heap.size (fun k_=>some k_≠(.slice Ao31 t870.length co31:Value).ownBlock) (.slice Ao25 t864.length co25) t864):=⟨by rw[←hq_];exact(kru HO_869001.out)⟩;have n1_:Aside0 (Kd.R (Kd.int .u64) 91 wc w.heap.size (fun k_=>some k_≠(.slice Ao25 t864.length co25:Value).ownBlock) (.slice Ao31 t870.length co31) t870):=⟨by rw[←hq_];exact(kru HO_875001.out)⟩;have n2_:Aside0 (wc.heap[ab]? = some (.cells #[.bool false,.slice none 0 0,.slice none 0 0] 27 (0,0))):=⟨by rw[←hq_];exact(kbu aa.out)⟩;have n3_:Aside0 (wc.heap[gb868]? = some (.cells #[.bool t863,.slice Ao25 t864.length co25] 25 (0,0))):=⟨by rw[←hq_];exact(kbu BK868.out)⟩;have n4_:Aside0 (wc.heap[gb874]? = some (.cells #[.bool t869,.slice Ao31 t870.length co31] 25 (0,0))):=⟨by rw[←hq_];exact(kbu BK874.out)⟩;have n5_:Aside0 (Below w.heap.size w wc):=⟨U9⟩;clear HO_869001 HO_875001 aa BK868 BK874 HB hq_;have HO_869001:=n0_;have HO_875001:=n1_;have aa:=n2_;have BK868:=n3_;have BK874:=n4_;have HB:=n5_;clear n0_ n1_ n2_ n3_ n4_ n5_));have dG:=am.out;have dH:=ae.out;have dI:=aj.out;have dJ:=an.out;have cI:wc.cell? ⟨gb868,0,none⟩=some (.bool t863):=(blk_cell BK868.out 0).trans rfl;have cJ:wc.cell? ⟨gb868,1,none⟩=some (.slice Ao25 t864.length co25):=(blk_cell BK868.out 1).trans rfl;have cK:=blk_frozen BK868.out 0;have cL:=blk_frozen BK868.out 1;have dK:=ar.out;have dL:=ah.out;have cM:wc.cell? ⟨gb874,0,none⟩=some (.bool t869):=(blk_cell BK874.out 0).trans rfl;have cN:wc.cell? ⟨gb874,1,none⟩=some (.slice Ao31 t870.length co31):=(blk_cell BK874.out 1).trans rfl;have cO:=blk_frozen BK874.out 0;have cP:=blk_frozen BK874.out 1)|((with_reducible refine gate_callee (f:=17) rfl ?_);refine kgl (some 64) rfl rfl Tryz.func17 #[.agg #[.bool t863,.slice Ao25 t864.length co25],.agg #[.bool t869,.slice Ao31 t870.length co31]] rfl ?_;(with_reducible refine(ratio_Of.calls av t863 _ _ t864 t869 _ _ t870 aE aR aU ca _ ?side1 ?side2 ?side3 ?side4 A72.out).mono ?_);(case side1=>repeat (first|exact(Kd.R_reads' HO_869001.out).2.2|(with_reducible refine Kd.C_alloc ?_ _)|(with_reducible refine Kd.C_drewN ?_ _)|(with_reducible refine Kd.C_drew ?_)));(case side2=>exact(Kd.R_reads' HO_869001.out).2.1);(case side3=>repeat (first|exact(Kd.R_reads' HO_875001.out).2.2|(with_reducible refine Kd.C_alloc ?_ _)|(with_reducible refine Kd.C_drewN ?_ _)|(with_reducible refine Kd.C_drew ?_)));(case side4=>exact(Kd.R_reads' HO_875001.out).2.1);rintro e w78 ⟨dV,dW,rfl,ho0,ho1,hb⟩;refine⟨_,rfl,?_⟩;have bx:=Aside0.mk (Kd.R_lower (Kd.R_new' (Kd.R_new' ho0 (Kd.R_lt (kru HO_869001.out))) (Kd.R_lt (kru HO_875001.out))) (below_size (khu HB.out)));have bz:=Aside0.mk (Kd.R_lower (Kd.R_new' (Kd.R_new' ho1 (Kd.R_lt (kru HO_869001.out))) (Kd.R_lt (kru HO_875001.out))) (below_size (khu HB.out)));replace HO_869001:=Aside0.mk (Kd.R_mono (Kd.R_told (Kd.R_told (Kd.R_old (kru HO_869001.out) hb) (Kd.R_base ho0)) (Kd.R_base ho1)) (fun _ h_=>h_.1));replace HO_875001:=Aside0.mk (Kd.R_mono (Kd.R_told (Kd.R_told (Kd.R_old (kru HO_875001.out) hb) (Kd.R_base ho0)) (Kd.R_base ho1)) (fun _ h_=>h_.1));replace aa:=kbb aa hb;replace BK868:=kbb BK868 hb;replace BK874:=kbb BK874 hb;replace HB:=kbs HB hb;(try clear hb);(try clear hb2);(try clear hk);(try clear hi);(try clear ho0);(try clear ho1);have cQ:w78.cell? ⟨ab,0,none⟩=some (.bool false):=(blk_cell aa.out 0).trans rfl;have cR:w78.cell? ⟨ab,1,none⟩=some (.slice none 0 0):=(blk_cell aa.out 1).trans rfl;have cS:w78.cell? ⟨ab,2,none⟩=some (.slice none 0 0):=(blk_cell aa.out 2).trans rfl;have cT:=blk_frozen aa.out 0;have cU:=blk_frozen aa.out 1;have cV:=blk_frozen aa.out 2;obtain⟨bi,bj,ch⟩:=Kd.R_slice bx.out;subst ch;obtain⟨br,bu,ci⟩:=Kd.R_slice bz.out;subst ci))
         refine bodyPost_ret (results_ct rfl _ _ ab 27 #[.bool aE,.slice bi aR.length bj,.slice br aU.length bu] (0,0) _ rfl (kpu #[.bool aE,.slice bi aR.length bj,.slice none 0 0] 2 (kpu #[.bool aE,.slice none 0 0,.slice none 0 0] 1 (kpu #[.bool false,.slice none 0 0,.slice none 0 0] 0 (kbu aa.out)))) Tryz.underlying27 rfl X0) rfl ?_
         exact⟨_,_,B0,by(with_reducible repeat (first|apply Kd.R_alloc|apply Kd.R_drewN|apply Kd.R_drew));exact Kd.R_mono (Kd.R_far (p:=⟨ab,2,none⟩) (Kd.R_far (p:=⟨ab,1,none⟩) (Kd.R_far (p:=⟨ab,0,none⟩) (Kd.R_types bx.out aa.out J0) (fun _ hk=>hk.2) (.bool aE)) (fun _ hk=>hk.2) (.slice bi aR.length bj)) (fun _ hk=>hk.2) (.slice br aU.length bu)) (fun _ hk=>hk.1.1.1),by(with_reducible repeat (first|apply Kd.R_alloc|apply Kd.R_drewN|apply Kd.R_drew));exact Kd.R_mono (Kd.R_far (p:=⟨ab,2,none⟩) (Kd.R_far (p:=⟨ab,1,none⟩) (Kd.R_far (p:=⟨ab,0,none⟩) (Kd.R_types bz.out aa.out J0) (fun _ hk=>hk.2) (.bool aE)) (fun _ hk=>hk.2) (.slice bi aR.length bj)) (fun _ hk=>hk.2) (.slice br aU.length bu)) (fun _ hk=>hk.1.1.1),by repeat (first|(with_reducible first|exact HB.out|apply below_alloc|apply pw_below_drewN|apply below_drew1|refine below_set ?_ af.out|refine below_set ?_ ao.out|refine below_set ?_ au.out)|exact HB.out)⟩
def tribunalref03_long.f (a0_0:Bool) (l0_1:List Int):Option (Bool):=some (decide ((l0_1.length:Int)>4096))
theorem tribunalref03_long.calls (a0_0:Bool) (A0_1:Option Addr) (c0_1:Nat) (l0_1:List Int) (r:Bool) (w:World) (hr0_1:Kd.C (Kd.int .u16) w A0_1 l0_1.length l0_1) (hc0_1:l0_1.length≤c0_1) (h:tribunalref03_long.f a0_0 l0_1=some r) :
  Calls Tryz.prog 55 #[.agg #[.bool a0_0,.slice A0_1 l0_1.length c0_1]] w fun e w'=>e=.returned (.bool r)∧Below w.heap.size w w':=by
 have hu73:=Tryz.underlying73
 have K:=Kp.refl w
 replace K:=K.parV (Kd.V_mono (ok':=fun _=>True) (Kd.V_mk (e:=83) (base:=0) hc0_1 (Kd.C_F (Kd.heap_int .u16) hr0_1)) (fun _ h=>trivial))
 clear hr0_1 hc0_1
 try simp only[klv]at K
 rw[tribunalref03_long.f]at h
 simp only[Option.some.injEq]at h
 subst h
 go_enter Tryz.func55,Tryz.ntmps55
 go_wp2_with (first|(refine gd 1 rfl ?_;refine kbk 1 #[.bool a0_0,.slice A0_1 l0_1.length c0_1] 73 K.u ?_;clear K;intro g1 W2 K;obtain⟨ua0,ub0⟩:=K.cell2 0 rfl))
 go_ret
 exact⟨rfl,K.u.below⟩
def tribunalref02_trim.l0:Nat→List Int→Int→Option (List Int)
 | 0,_,_=>none
 | k+1,x0,x3=>if x3>0 then(if 0≤(wrap64 (x3-1)) then(if(wrap64 (x3-1))<(x0.length:Int) then(if(rd x0 (wrap64 (x3-1)))=0 then(tribunalref02_trim.l0 k x0 (wrap64 (x3-1))) else(if 0≤x3 then(if x3≤(x0.length:Int) then(some (x0.take (x3:Int).toNat)) else(none)) else(none))) else(none)) else(none)) else(if 0≤x3 then(if x3≤(x0.length:Int) then(some (x0.take (x3:Int).toNat)) else(none)) else(none))
def tribunalref02_trim.f (k:Nat) (l0:List Int):Option (List Int):=tribunalref02_trim.l0 k l0 (l0.length:Int)
theorem tribunalref02_trim.mono_l:∀k,(∀y0 y1,LeO (tribunalref02_trim.l0 k y0 y1) (tribunalref02_trim.l0 (k+1) y0 y1))
 | 0=>fun _ _ r h=>by simp[tribunalref02_trim.l0]at h
 | k+1=>by
  have ih0:=tribunalref02_trim.mono_l k
  intro y0 y1
  unfold tribunalref02_trim.l0
  repeat' first
  | (with_reducible exact ih0 _ _)
  | (with_reducible exact LeO.refl _)
  | (with_reducible exact LeO.none _)
  | (with_reducible refine LeO.ite ?_ ?_)
  | (with_reducible refine LeO.bind ?_ (fun _=>?_))
  | exact ih0 _ _
  | exact LeO.none _
  | refine LeO.ite ?_ ?_
  | refine LeO.bind ?_ (fun _=>?_)
theorem tribunalref02_trim.mono:∀a0 k,LeO (tribunalref02_trim.f k a0) (tribunalref02_trim.f (k+1) a0):=by
 intro a0 k
 have ih0:=tribunalref02_trim.mono_l k
 unfold tribunalref02_trim.f
 repeat' first
   | (with_reducible exact ih0 _ _)
   | (with_reducible exact LeO.refl _)
   | (with_reducible exact LeO.none _)
   | (with_reducible refine LeO.ite ?_ ?_)
   | (with_reducible refine LeO.bind ?_ (fun _=>?_))
   | exact ih0 _ _
   | exact LeO.none _
   | refine LeO.ite ?_ ?_
   | refine LeO.bind ?_ (fun _=>?_)
theorem tribunalref02_trim.calls (k:Nat) (P0_:Nat→Prop) (A0:Option Addr) (c0:Nat) (l0:List Int) (r:List Int) (w:World) (hs0:Kd.V (Kd.int .u16) 83 w w.heap.size (fun k_=>P0_ k_) (.slice A0 l0.length c0) l0) (h:tribunalref02_trim.f k l0=some r) :
  Calls Tryz.prog 158 #[.slice A0 l0.length c0] w fun e w'=>∃v0_:Value,e=.returned (v0_)∧Kd.V (Kd.int .u16) 83 w' w.heap.size (fun k_=>(P0_ k_∨w.heap.size≤k_)) v0_ r∧Below w.heap.size w w':=by
 have HO0:=Aside0.mk (show Kd.V (Kd.int .u16) 83 w w.heap.size (fun k_=>(P0_ k_∨w.heap.size≤k_)) (.slice A0 l0.length c0) l0 from Kd.V_mono hs0 (fun k_ hk=>.inl hk))
 have HB:=Aside0.mk (Below.refl w.heap.size w)
 have H:(tribunalref02_trim.l0 k l0 (l0.length:Int))=some r:=h
 clear h
 have H':=Aside0.mk H
 clear H
 go_enter Tryz.func158,Tryz.ntmps158
 go_wp2
 go_loopg [3] k (fun kq v3 w'=>∃(aa:Int),v3=.int .i64 aa∧Aside0 (tribunalref02_trim.l0 kq l0 aa=some r)∧Aside0 (kq≤k)∧Aside0 (Kd.V (Kd.int .u16) 83 w' w.heap.size (fun k_=>(P0_ k_∨w.heap.size≤k_)) (.slice A0 l0.length c0) l0)∧Aside0 (Below w.heap.size w w'))
 case atStart=>exact⟨((l0.length:Int)),Y0,H',⟨Nat.le_refl _⟩,⟨kvu HO0.out⟩,⟨khu HB.out⟩⟩
 case round=>
  clear H'
  try clear c1
  obtain⟨aa,rfl,HA,HK1,ab,HB⟩:=hrel
  cases gk with
  | zero=>exact absurd HA.out (by simp[tribunalref02_trim.l0])
  | succ k1=>
   have H:=HA.out
   clear HA
   simp only[tribunalref02_trim.l0]at H
   by_cases c2:aa>0
   ·rw [if_pos c2]at H
    have aB:decide (0<aa)=true:=decide_eq_true c2
    clear c2
    obtain⟨ji3,hji3⟩:∃j_:Int,(wrap64 (aa-1))=j_:=⟨_,rfl⟩
    replace H:(if 0≤(ji3) then(if(ji3)<(l0.length:Int) then(if(rd l0 (ji3))=0 then(tribunalref02_trim.l0 k1 l0 ji3) else(if 0≤aa then(if aa≤(l0.length:Int) then(some (l0.take (aa:Int).toNat)) else(none)) else(none))) else(none)) else(none))=some r:=by first|(rw[hji3]at H;exact H)|(simp only[hji3]at H ⊢;exact H)
    have aF:(IntKind.i64.wrap (aa-1))=ji3:=(i64_w _).trans hji3
    by_cases c4:0≤(ji3)
    ·rw [if_pos c4]at H
     have aM:decide (0≤(ji3))=true:=decide_eq_true c4
     clear c4
     by_cases c5:(ji3)<(l0.length:Int)
     ·rw[if_pos c5]at H
      have aN:decide ((ji3)<(l0.length:Int))=true:=decide_eq_true c5
      clear c5
      by_cases c6:(rd l0 (ji3))=0
      ·rw[if_pos c6]at H
       have aC:((rd l0 (ji3))==0)=true:=beq_iff_eq.mpr c6
       have aD:((rd l0 (ji3)) != 0)=false:=bne_eq_false_iff_eq.mpr c6
       clear c6
       have H':=Aside0.mk H
       clear H
       have ac:0≤((ji3):Int):=of_decide_eq_true ‹_›
       have ad:(ji3)<(l0.length:Int):=of_decide_eq_true ‹_›
       obtain⟨ag,al,ar⟩:=Kd.at_int (Kd.V_reads' ab.out).2.2 (ji3) ac ad
       cases al
       replace ac:=eq_true ac
       replace ad:=eq_true ad
       go_wp2
       go_roundg k1
       case measure=>have:=HK1.out;omega
       case rel=>exact⟨(ji3),Z7,H',⟨Y3⟩,⟨kvu ab.out⟩,⟨khu HB.out⟩⟩
      rw[if_neg c6]at H
      have aC:((rd l0 (ji3))==0)=false:=beq_eq_false_iff_ne.mpr c6
      have aD:((rd l0 (ji3)) != 0)=true:=bne_iff_ne.mpr c6
      by_cases c7:0≤aa
      ·rw[if_pos c7]at H
       have aO:=eq_true c7
       have aP:decide (0≤aa)=true:=decide_eq_true c7
       clear c7
       by_cases c8:aa≤(l0.length:Int)
       ·rw[if_pos c8]at H
        have aQ:=eq_true c8
        have aR:decide (aa≤(l0.length:Int))=true:=decide_eq_true c8
        clear c8
        obtain⟨ah,ae⟩:∃y_:List Int,y_=(l0.take (aa:Int).toNat):=⟨_,rfl⟩
        replace H:(some ah)=some r:=by first|(rw[ae];with_reducible exact H)|(have H2_:=(Option.bind_some _ _).symm.trans H;rw[ae];with_reducible exact H2_)|(have H2_:=(Option.bind_some _ _).symm.trans H;with_reducible exact H2_)|with_reducible exact H|(rw[ae];exact H)|exact H
        have ao:=Aside0.mk ae
        clear ae
        obtain rfl:=Option.some.inj H
        have ac:0≤((ji3):Int):=of_decide_eq_true ‹_›
        have ad:(ji3)<(l0.length:Int):=of_decide_eq_true ‹_›
        obtain⟨ag,al,ar⟩:=Kd.at_int (Kd.V_reads' ab.out).2.2 (ji3) ac ad
        cases al
        replace ac:=eq_true ac
        replace ad:=eq_true ad
        have q9:(aa:Int)≤((l0.length:Int):Int):=of_decide_eq_true ‹_›
        obtain⟨i09,au,_,aE,_⟩:=info_parts info83
        have ak:l0.length≤c0:=(Kd.V_reads' ab.out).2.1
        have hC9:Kd.F (Kd.int .u16) _ _ (some ag) l0.length l0:=(Kd.V_at (base:=w.heap.size) ab.out).2.2
        have ax:=cut_to (P:=Tryz.prog) 71 83 .i64 Tryz.underlying71 au (some ag) l0.length c0 aa (of_decide_eq_true ‹_›) q9 ak
        have hr9:=Kd.F_take (m:=(aa:Int).toNat) hC9 Z0
        have hy9:ah.length=(aa:Int).toNat:=(by rw[ao.out,List.length_take];omega)
        rw[←ao.out]at hr9
        rw[←hy9]at ax
        have ay:=Aside0.mk (show Kd.V (Kd.int .u16) 83 _ w.heap.size _ (.slice (some ag) ah.length c0) ah from Kd.V_mk Z0 hr9)
        have aG:=Aside0.mk (show ah.length≤c0 from by omega)
        clear hr9 hC9 ak au aE
        have KY9:=Aside0.mk hy9
        clear hy9
        replace q9:=eq_true q9
        go_wp2
        go_ret
        exact⟨_,F3,kvu ay.out,khu HB.out⟩
       rw[if_neg c8]at H
       exact absurd H Z1
      rw[if_neg c7]at H
      exact absurd H Z1
     rw[if_neg c5]at H
     exact absurd H Z1
    rw[if_neg c4]at H
    exact absurd H Z1
   rw[if_neg c2]at H
   have aB:decide (0<aa)=false:=decide_eq_false c2
   clear c2
   by_cases c10:0≤aa
   ·rw[if_pos c10]at H
    have aH:=eq_true c10
    have aI:decide (0≤aa)=true:=decide_eq_true c10
    clear c10
    by_cases c11:aa≤(l0.length:Int)
    ·rw[if_pos c11]at H
     have aJ:=eq_true c11
     have aK:decide (aa≤(l0.length:Int))=true:=decide_eq_true c11
     clear c11
     obtain⟨ai,af⟩:∃y_:List Int,y_=(l0.take (aa:Int).toNat):=⟨_,rfl⟩
     replace H:(some ai)=some r:=by first|(rw[af];with_reducible exact H)|(have H2_:=(Option.bind_some _ _).symm.trans H;rw[af];with_reducible exact H2_)|(have H2_:=(Option.bind_some _ _).symm.trans H;with_reducible exact H2_)|with_reducible exact H|(rw[af];exact H)|exact H
     have ap:=Aside0.mk af
     clear af
     obtain rfl:=Option.some.inj H
     have q12:(aa:Int)≤((l0.length:Int):Int):=of_decide_eq_true ‹_›
     obtain⟨i012,aq,_,az,_⟩:=info_parts info83
     have aj:l0.length≤c0:=(Kd.V_reads' ab.out).2.1
     have av:Kd.F (Kd.int .u16) _ _ A0 l0.length l0:=(Kd.V_at (base:=w.heap.size) ab.out).2.2
     have aw:=cut_to (P:=Tryz.prog) 71 83 .i64 Tryz.underlying71 aq A0 l0.length c0 aa (of_decide_eq_true ‹_›) q12 aj
     have am:=Kd.F_take (m:=(aa:Int).toNat) av Z0
     have an:ai.length=(aa:Int).toNat:=(by rw[ap.out,List.length_take];omega)
     rw[←ap.out]at am
     rw[←an]at aw
     have aA:=Aside0.mk (show Kd.V (Kd.int .u16) 83 _ w.heap.size _ (.slice A0 ai.length c0) ai from Kd.V_mk Z0 am)
     have aL:=Aside0.mk (show ai.length≤c0 from by omega)
     clear am av aj aq az
     have aS:=Aside0.mk an
     clear an
     replace q12:=eq_true q12
     go_wp2
     go_ret
     exact⟨_,B0,kvu aA.out,khu HB.out⟩
    rw[if_neg c11]at H
    exact absurd H Z1
   rw[if_neg c10]at H
   exact absurd H Z1
def tribunalref02_Make.f (k:Nat) (a0:Bool) (l1:List Int):Option (Bool×List Int):=(tribunalref02_trim.f k l1).bind fun t917=>(if a0=true then(some (decide (0<t917.length),t917)) else(some (false,t917)))
theorem tribunalref02_Make.calls (k:Nat) (a0:Bool) (P1_:Nat→Prop) (A1:Option Addr) (c1:Nat) (l1:List Int) (r1:Bool) (r2:List Int) (w:World) (hs1:Kd.V (Kd.int .u16) 83 w w.heap.size (fun k_=>P1_ k_) (.slice A1 l1.length c1) l1) (h:tribunalref02_Make.f k a0 l1=some (r1,r2)) :
  Calls Tryz.prog 84 #[.bool a0,.slice A1 l1.length c1] w fun e w'=>∃v1_:Value,e=.returned (.agg #[.bool r1,v1_])∧Kd.V (Kd.int .u16) 83 w' w.heap.size (fun k_=>(P1_ k_∨w.heap.size≤k_)) v1_ r2∧Below w.heap.size w w':=by
 have au:=Tryz.underlying73
 have HO1:=Aside0.mk (show Kd.V (Kd.int .u16) 83 w w.heap.size (fun k_=>(P1_ k_∨w.heap.size≤k_)) (.slice A1 l1.length c1) l1 from Kd.V_mono hs1 (fun k_ hk=>.inl hk))
 have HB:=Aside0.mk (Below.refl w.heap.size w)
 have H:((tribunalref02_trim.f k l1).bind fun ac=>(if a0=true then(some (decide (0<ac.length),ac)) else(some (false,ac))))=some (r1,r2):=h
 clear h
 replace H:=Option.bind_eq_some_iff.mp H
 obtain⟨ac,A30,H⟩:=H
 replace H:(if a0=true then(some (decide (0<ac.length),ac)) else(some (false,ac)))=some (r1,r2):=H
 have A3:=Aside0.mk A30
 clear A30
 by_cases c4:a0=true
 ·subst c4
  have H1:(some (decide (0<ac.length),ac))=some (r1,r2):=by rw[if_pos rfl]at H;exact H
  clear H
  have H:=H1
  clear H1
  simp only[Option.some.injEq,Prod.mk.injEq]at H
  obtain⟨rfl,rfl⟩:=H
  go_enter Tryz.func84,Tryz.ntmps84
  go_wp2_with (first|(refine gd 4 rfl ?_;(try(refine gate_guard F1 ?_;dsimp only));refine kbe 4 #[.bool false,.slice none 0 0] 73 ?_;intro aa hg w5 hbox hb;replace HO1:=Aside0.mk (Kd.V_below (Kd.V_elderB (kvu HO1.out) aa (Nat.le_of_eq hg.symm)) hb);have ab:=Aside0.mk (hbox);have ah:=kbz hg HB;have ae:=kbz hg HB;replace HB:=kbs HB hb;clear hb hbox hg)|((with_reducible refine gate_callee (f:=158) rfl ?_);refine kgl (some 6) rfl rfl Tryz.func158 #[.slice A1 l1.length c1] rfl ?_;(with_reducible refine(tribunalref02_trim.calls k (fun k_=>((P1_ k_∨w.heap.size≤k_)∧k_≠aa)) _ _ l1 ac _ ?side1 A3.out).mono ?_);(case side1=>exact HO1.out);rintro e w6 ⟨ai,rfl,ho0,hb⟩;refine⟨_,rfl,?_⟩;replace HO1:=kvb HO1 hb;have ad:=Aside0.mk (Kd.V_lower (Kd.V_mono (ok':=fun k_=>(P1_ k_∨w.heap.size≤k_)∧k_≠aa) ho0 (fun k_ hk_=>⟨Or.elim hk_ (fun hs_=>hs_.1) (fun hn_=>(.inr (Nat.le_trans (below_size (khu HB.out)) hn_))),Or.elim hk_ (fun hs_=>hs_.2) (kfb ab)⟩)) (below_size (khu HB.out)));replace ab:=kbb ab hb;replace HB:=kbs HB hb;(try clear hb);(try clear hb2);(try clear hk);(try clear hi);(try clear ho0);obtain⟨Ao7,co7,eo7⟩:=Kd.V_slice ad.out;subst eo7;have ao:w6.cell? ⟨aa,0,none⟩=some (.bool false):=(blk_cell ab.out 0).trans rfl;have ap:w6.cell? ⟨aa,1,none⟩=some (.slice none 0 0):=(blk_cell ab.out 1).trans rfl;have aq:=blk_frozen ab.out 0;have ar:=blk_frozen ab.out 1))
  refine bodyPost_ret (results_cell_row rfl _ _ aa 73 #[.bool (decide (0<ac.length)),.slice Ao7 ac.length co7] (0,0) _ rfl (kpu #[.bool (decide (0<ac.length)),.slice none 0 0] 1 (kpu #[.bool false,.slice none 0 0] 0 (kbu ab.out))) Tryz.underlying73 rfl X0) rfl ?_
  exact⟨_,B0,by(with_reducible repeat (first|apply Kd.V_alloc|apply Kd.V_drewN|apply Kd.V_drew));exact Kd.V_mono (Kd.V_far (p:=⟨aa,1,none⟩) (Kd.V_far (p:=⟨aa,0,none⟩) (Kd.V_mono ad.out (fun k_ hk=>(⟨hk,hk.2⟩:_∧k_≠aa))) (fun _ hk=>hk.2) (.bool (decide (0<ac.length)))) (fun _ hk=>hk.2) (.slice Ao7 ac.length co7)) (fun _ hk=>hk.1.1),by repeat (first|(with_reducible first|exact HB.out|apply below_alloc|apply pw_below_drewN|apply below_drew1|refine below_set ?_ ae.out)|exact HB.out)⟩
 replace c4:=Bool.eq_false_iff.mpr c4
 subst c4
 have H1:(some (false,ac))=some (r1,r2):=by rw[if_neg (show ¬(false=true) by decide)]at H;exact H
 clear H
 have H:=H1
 clear H1
 simp only[Option.some.injEq,Prod.mk.injEq]at H
 obtain⟨rfl,rfl⟩:=H
 go_enter Tryz.func84,Tryz.ntmps84
 go_wp2_with (first|(refine gd 4 rfl ?_;(try(refine gate_guard F1 ?_;dsimp only));refine kbe 4 #[.bool false,.slice none 0 0] 73 ?_;intro aa hg w9 hbox hb;replace HO1:=Aside0.mk (Kd.V_below (Kd.V_elderB (kvu HO1.out) aa (Nat.le_of_eq hg.symm)) hb);have ab:=Aside0.mk (hbox);have ah:=kbz hg HB;have ae:=kbz hg HB;replace HB:=kbs HB hb;clear hb hbox hg)|((with_reducible refine gate_callee (f:=158) rfl ?_);refine kgl (some 6) rfl rfl Tryz.func158 #[.slice A1 l1.length c1] rfl ?_;(with_reducible refine(tribunalref02_trim.calls k (fun k_=>((P1_ k_∨w.heap.size≤k_)∧k_≠aa)) _ _ l1 ac _ ?side1 A3.out).mono ?_);(case side1=>exact HO1.out);rintro e w10 ⟨ai,rfl,ho0,hb⟩;refine⟨_,rfl,?_⟩;replace HO1:=kvb HO1 hb;have ad:=Aside0.mk (Kd.V_lower (Kd.V_mono (ok':=fun k_=>(P1_ k_∨w.heap.size≤k_)∧k_≠aa) ho0 (fun k_ hk_=>⟨Or.elim hk_ (fun hs_=>hs_.1) (fun hn_=>(.inr (Nat.le_trans (below_size (khu HB.out)) hn_))),Or.elim hk_ (fun hs_=>hs_.2) (kfb ab)⟩)) (below_size (khu HB.out)));replace ab:=kbb ab hb;replace HB:=kbs HB hb;(try clear hb);(try clear hb2);(try clear hk);(try clear hi);(try clear ho0);obtain⟨af,ag,aj⟩:=Kd.V_slice ad.out;subst aj;have ak:w10.cell? ⟨aa,0,none⟩=some (.bool false):=(blk_cell ab.out 0).trans rfl;have al:w10.cell? ⟨aa,1,none⟩=some (.slice none 0 0):=(blk_cell ab.out 1).trans rfl;have am:=blk_frozen ab.out 0;have an:=blk_frozen ab.out 1))
 refine bodyPost_ret (results_cell_row rfl _ _ aa 73 #[.bool false,.slice af ac.length ag] (0,0) _ rfl (kpu #[.bool false,.slice none 0 0] 1 (kpu #[.bool false,.slice none 0 0] 0 (kbu ab.out))) Tryz.underlying73 rfl X0) rfl ?_
 exact⟨_,B0,by(with_reducible repeat (first|apply Kd.V_alloc|apply Kd.V_drewN|apply Kd.V_drew));exact Kd.V_mono (Kd.V_far (p:=⟨aa,1,none⟩) (Kd.V_far (p:=⟨aa,0,none⟩) (Kd.V_mono ad.out (fun k_ hk=>(⟨hk,hk.2⟩:_∧k_≠aa))) (fun _ hk=>hk.2) (.bool false)) (fun _ hk=>hk.2) (.slice af ac.length ag)) (fun _ hk=>hk.1.1),by repeat (first|(with_reducible first|exact HB.out|apply below_alloc|apply pw_below_drewN|apply below_drew1|refine below_set ?_ ae.out)|exact HB.out)⟩
mutual
def tribunalref02_To.l0:Nat→List Int→Int→Bool→List Int→Option (Bool×List Int)
 | 0,_,_,_,_=>none
 | k+1,x3,x4,x900000,x900001=>if x4<(x900001.length:Int) then(tribunalref02_To.l1 k x3 x4 0 3 x900000 x900001) else(some (x900000,x3))
def tribunalref02_To.l1:Nat→List Int→Int→Int→Int→Bool→List Int→Option (Bool×List Int)
 | 0,_,_,_,_,_,_=>none
 | k+1,x3,x4,x5,x6,x900000,x900001=>if x6≥0 then(if(wrap64 (x4+x6))<(x900001.length:Int) then(if 0≤(wrap64 (x4+x6)) then(tribunalref02_To.l1 k x3 x4 (Go.bits .or .u64 (IntKind.u64.wrap (x5*65536)) (IntKind.u64.wrap (rd x900001 (wrap64 (x4+x6))))) (wrap64 (x6-1)) x900000 x900001) else(none)) else(tribunalref02_To.l1 k x3 x4 (IntKind.u64.wrap (x5*65536)) (wrap64 (x6-1)) x900000 x900001)) else(if x3.length<17592186044416 then(tribunalref02_To.l0 k (x3++[x5]) (wrap64 (x4+4)) x900000 x900001) else(none))
end
def tribunalref02_To.f (k:Nat) (a0_0:Bool) (l0_1:List Int):Option (Bool×List Int):=tribunalref02_To.l0 k ([]:List Int) 0 a0_0 l0_1
theorem tribunalref02_To.calls (k:Nat) (ad:Bool) (al:Option Addr) (am:Nat) (ab:List Int) (r1:Bool) (r2:List Int) (w:World) (ay:Kd.C (Kd.int .u16) w al ab.length ab) (az:ab.length≤am) (h:tribunalref02_To.f k ad ab=some (r1,r2)) :
  Calls Tryz.prog 40 #[.agg #[.bool ad,.slice al ab.length am]] w fun e w'=>∃v1_:Value,e=.returned (.agg #[.bool r1,v1_])∧Kd.R (Kd.int .u64) 91 w' w.heap.size (fun _=>True) v1_ r2∧Below w.heap.size w w':=by
 have bD:=Tryz.underlying73
 have bE:=Tryz.underlying25
 have aM:=Aside0.mk ay
 have bo:=Aside0.mk az
 clear ay az
 have HB:=Aside0.mk (Below.refl w.heap.size w)
 have H:(tribunalref02_To.l0 k ([]:List Int) 0 ad ab)=some (r1,r2):=h
 clear h
 have H':=Aside0.mk H
 clear H
 go_enter Tryz.func40,Tryz.ntmps40
 go_wp2_with (first|(refine gd 1 rfl ?_;refine kbe 1 #[.bool ad,.slice al ab.length am] 73 ?_;intro af hg w2 hbox hb;have aa:=Aside0.mk (hbox);have bp:=kbz hg HB;have ap:=kbz hg HB;replace HB:=kbs HB hb;clear hb hbox hg)|(refine gd 2 rfl ?_;refine kbe 2 #[.bool false,.slice none 0 0] 25 ?_;intro ai hg w3 hbox hb;have ac:=Aside0.mk (hbox);have bq:=kbz hg HB;have aq:=kbz hg HB;replace HB:=kbs HB hb;have aj:=knl hg aa;have ak:=kng hg aa;replace aa:=kbb aa hb;clear hb hbox hg))
 go_loopg [3,4] k (fun kq v3 v4 w'=>∃(ah:List Int) (ae:Int),v4=.int .i64 ae∧Aside0 (tribunalref02_To.l0 kq ah ae ad ab=some (r1,r2))∧Aside0 (kq≤k)∧Aside0 (Kd.R (Kd.int .u64) 91 w' w.heap.size (fun _=>True) v3 ah)∧Aside0 (w'.heap[af]? = some (.cells #[.bool ad,(.slice al ab.length am)] 73 (0,0)))∧Aside0 (w'.heap[ai]? = some (.cells #[.bool false,(.slice none 0 0)] 25 (0,0)))∧Aside0 (Below w.heap.size w w'))
 case atStart=>exact⟨(([]:List Int)),(0),Y0,H',⟨Nat.le_refl _⟩,⟨D0⟩,⟨by(with_reducible repeat (first|refine blk_drewN ?_ _|refine blk_drew ?_|refine blk_alloc ?_ _));exact aa.out⟩,⟨by(with_reducible repeat (first|refine blk_drewN ?_ _|refine blk_drew ?_|refine blk_alloc ?_ _));exact ac.out⟩,⟨by repeat (first|(with_reducible first|exact HB.out|apply below_alloc|apply pw_below_drewN|apply below_drew1|refine below_set ?_ ap.out|refine below_set ?_ aq.out)|exact HB.out)⟩⟩
 case round=>
  clear H'
  try clear p2
  obtain⟨ah,ae,rfl,HA,HK1,an,aa,ac,HB⟩:=hrel
  cases gk with
  | zero=>exact absurd HA.out (by simp[tribunalref02_To.l0])
  | succ k1=>
   have H:=HA.out
   clear HA
   simp only[tribunalref02_To.l0]at H
   by_cases c4:ae<(ab.length:Int)
   ·rw [if_pos c4]at H
    have aA:decide (ae<(ab.length:Int))=true:=decide_eq_true c4
    clear c4
    have H':=Aside0.mk H
    clear H
    have bF:=aj.out
    have bG:=ak.out
    have aC:wr.cell? ⟨af,0,none⟩=some (.bool ad):=(blk_cell aa.out 0).trans rfl
    have aD:wr.cell? ⟨af,1,none⟩=some (.slice al ab.length am):=(blk_cell aa.out 1).trans rfl
    have aE:=blk_frozen aa.out 0
    have aG:=blk_frozen aa.out 1
    go_wp2
    go_loopg [5,6] k1 (fun kq v5 v6 w'=>∃(ao:Int) (ag:Int),v5=.int .u64 ao∧v6=.int .i64 ag∧Aside0 (tribunalref02_To.l1 kq ah ae ao ag ad ab=some (r1,r2))∧Aside0 (kq≤k1)∧Aside0 (Kd.R (Kd.int .u64) 91 w' w.heap.size (fun _=>True) u3 ah)∧Aside0 (w'.heap[af]? = some (.cells #[.bool ad,(.slice al ab.length am)] 73 (0,0)))∧Aside0 (w'.heap[ai]? = some (.cells #[.bool false,(.slice none 0 0)] 25 (0,0)))∧Aside0 (Below w.heap.size w w'))
    case atStart=>exact⟨(0),(3),Y0,Y0,H',⟨Nat.le_refl _⟩,⟨kru an.out⟩,⟨by(with_reducible repeat (first|refine blk_drewN ?_ _|refine blk_drew ?_|refine blk_alloc ?_ _));exact aa.out⟩,⟨by(with_reducible repeat (first|refine blk_drewN ?_ _|refine blk_drew ?_|refine blk_alloc ?_ _));exact ac.out⟩,⟨by repeat (first|(with_reducible first|exact HB.out|apply below_alloc|apply pw_below_drewN|apply below_drew1|refine below_set ?_ ap.out|refine below_set ?_ aq.out)|exact HB.out)⟩⟩
    case round=>
     clear H'
     try clear p2
     try clear c4
     try clear aA
     try clear c5
     try clear aC
     try clear aD
     try clear aE
     try clear aG
     try clear p2
     obtain⟨ao,ag,rfl,rfl,HA,HK2,an,aa,ac,HB⟩:=hrel
     cases gk with
     | zero=>exact absurd HA.out (by simp[tribunalref02_To.l1])
     | succ k2=>
      have H:=HA.out
      clear HA
      simp only[tribunalref02_To.l1]at H
      by_cases c7:ag≥0
      ·rw[if_pos c7]at H
       have aT:decide (0≤ag)=true:=decide_eq_true c7
       clear c7
       by_cases c8:(wrap64 (ae+ag))<(ab.length:Int)
       ·rw[if_pos c8]at H
        have aH:decide ((wrap64 (ae+ag))<(ab.length:Int))=true:=decide_eq_true c8
        clear c8
        obtain⟨ji9,av⟩:∃j_:Int,(wrap64 (ae+ag))=j_:=⟨_,rfl⟩
        replace H:(if 0≤(ji9) then(tribunalref02_To.l1 k2 ah ae (Go.bits .or .u64 (IntKind.u64.wrap (ao*65536)) (IntKind.u64.wrap (rd ab (ji9)))) (wrap64 (ag-1)) ad ab) else(none))=some (r1,r2):=by first|(rw[av]at H;exact H)|(simp only[av]at H ⊢;exact H)
        (try rw[av]at aH)
        have br:(IntKind.i64.wrap (ae+ag))=ji9:=(i64_w _).trans av
        by_cases c10:0≤(ji9)
        ·rw[if_pos c10]at H
         have bu:decide (0≤(ji9))=true:=decide_eq_true c10
         clear c10
         have H':=Aside0.mk H
         clear H
         have bv:=aj.out
         have bw:=ak.out
         have aW:wr.cell? ⟨af,0,none⟩=some (.bool ad):=(blk_cell aa.out 0).trans rfl
         have aX:wr.cell? ⟨af,1,none⟩=some (.slice al ab.length am):=(blk_cell aa.out 1).trans rfl
         have aY:=blk_frozen aa.out 0
         have aZ:=blk_frozen aa.out 1
         have aw:0≤((ji9):Int):=of_decide_eq_true ‹_›
         have ax:(ji9)<(ab.length:Int):=of_decide_eq_true ‹_›
         obtain⟨bx,aU,au⟩:=Kd.at_int aM.out (ji9) aw ax
         cases aU
         replace au:=(HB.out.cell (World.block_lt_of_cell? w _ au)).trans au
         replace aw:=eq_true aw
         replace ax:=eq_true ax
         go_wp2
         go_roundg k2
         case measure=>have:=HK1.out;have:=HK2.out;omega
         case rel=>exact⟨(Go.bits .or .u64 (IntKind.u64.wrap (ao*65536)) (IntKind.u64.wrap (rd ab (ji9)))),(wrap64 (ag-1)),(by first|rfl|(simp;done)|(simp only[←av]<;>(first|rfl|simp))|(simp[*];done)),Y0,H',⟨F6⟩,⟨kru an.out⟩,⟨by(with_reducible repeat (first|refine blk_drewN ?_ _|refine blk_drew ?_|refine blk_alloc ?_ _));exact aa.out⟩,⟨by(with_reducible repeat (first|refine blk_drewN ?_ _|refine blk_drew ?_|refine blk_alloc ?_ _));exact ac.out⟩,⟨by repeat (first|(with_reducible first|exact HB.out|apply below_alloc|apply pw_below_drewN|apply below_drew1|refine below_set ?_ ap.out|refine below_set ?_ aq.out)|exact HB.out)⟩⟩
        rw[if_neg c10]at H
        exact absurd H Z1
       rw[if_neg c8]at H
       have aH:decide ((wrap64 (ae+ag))<(ab.length:Int))=false:=decide_eq_false c8
       clear c8
       have H':=Aside0.mk H
       clear H
       have bz:=aj.out
       have bA:=ak.out
       have bb:wr.cell? ⟨af,0,none⟩=some (.bool ad):=(blk_cell aa.out 0).trans rfl
       have bc:wr.cell? ⟨af,1,none⟩=some (.slice al ab.length am):=(blk_cell aa.out 1).trans rfl
       have bd:=blk_frozen aa.out 0
       have be:=blk_frozen aa.out 1
       go_wp2
       go_roundg k2
       case measure=>have:=HK1.out;have:=HK2.out;omega
       case rel=>exact⟨(IntKind.u64.wrap (ao*65536)),(wrap64 (ag-1)),Y0,Y0,H',⟨F6⟩,⟨kru an.out⟩,⟨by(with_reducible repeat (first|refine blk_drewN ?_ _|refine blk_drew ?_|refine blk_alloc ?_ _));exact aa.out⟩,⟨by(with_reducible repeat (first|refine blk_drewN ?_ _|refine blk_drew ?_|refine blk_alloc ?_ _));exact ac.out⟩,⟨by repeat (first|(with_reducible first|exact HB.out|apply below_alloc|apply pw_below_drewN|apply below_drew1|refine below_set ?_ ap.out|refine below_set ?_ aq.out)|exact HB.out)⟩⟩
      rw[if_neg c7]at H
      have aT:decide (0≤ag)=false:=decide_eq_false c7
      clear c7
      by_cases c15:ah.length<17592186044416
      ·rw[if_pos c15]at H
       have aN:=Aside0.mk c15
       clear c15
       obtain⟨aI,ar⟩:∃y_:List Int,y_=(ah++[ao]):=⟨_,rfl⟩
       replace H:(tribunalref02_To.l0 k2 aI (wrap64 (ae+4)) ad ab)=some (r1,r2):=by first|(rw[ar];with_reducible exact H)|(have H2_:=(Option.bind_some _ _).symm.trans H;rw[ar];with_reducible exact H2_)|(have H2_:=(Option.bind_some _ _).symm.trans H;with_reducible exact H2_)|with_reducible exact H|(rw[ar];exact H)|exact H
       have aQ:=Aside0.mk ar
       clear ar
       have H':=Aside0.mk H
       clear H
       go_wp2_with (first|((with_reducible refine gate_builtin (b:=.append) (xs:=#[.tmp 37,.tmp 39]) rfl ?_);at_builtin;refine Kd.R_append (Kd.int .u64) (w0:=w) w.heap.size rfl (.tmp 37) (.tmp 39) 23 91 (.int .u64 0) 8 rfl Tryz.underlying23 info91 rfl J0 Z0 u3 ah ao [.int .u64 ao] (fun _=>True) (fun _=>False) rfl rfl ?aP (fun _ hk=>hk.elim) ?aF ?aO ?aB ?aS ?aL ?_;(case aP=>exact rfl);(case aB=>exact(khu HB.out));(case aF=>exact(fun _ _=>trivial));(case aO=>exact(kru an.out));(case aS=>exact(below_size (khu HB.out)));(case aL=>have:=aN.out;omega);intro bH w16 ho hb hg hat;rw[←aQ.out]at ho;replace aa:=Aside0.mk (blk_grown (g:=af) (o:=.cells #[.bool ad,.slice al ab.length am] 73 (0,0)) (kbu aa.out) hg (Kd.R_ne an.out aa.out J0));replace ac:=Aside0.mk (blk_grown (g:=ai) (o:=.cells #[.bool false,.slice none 0 0] 25 (0,0)) (kbu ac.out) hg (Kd.R_ne an.out ac.out J0));replace HB:=Aside0.mk (hb);have aR:=Aside0.mk (ho);clear an;clear ho hb hg hat))
       go_roundg k2
       case measure=>have:=HK1.out;have:=HK2.out;omega
       case rel=>exact⟨(aI),(wrap64 (ae+4)),Y0,H',⟨F6⟩,⟨kru aR.out⟩,⟨by(with_reducible repeat (first|refine blk_drewN ?_ _|refine blk_drew ?_|refine blk_alloc ?_ _));exact aa.out⟩,⟨by(with_reducible repeat (first|refine blk_drewN ?_ _|refine blk_drew ?_|refine blk_alloc ?_ _));exact ac.out⟩,⟨by repeat (first|(with_reducible first|exact HB.out|apply below_alloc|apply pw_below_drewN|apply below_drew1|refine below_set ?_ ap.out|refine below_set ?_ aq.out)|exact HB.out)⟩⟩
      rw[if_neg c15]at H
      exact absurd H Z1
   rw[if_neg c4]at H
   have aA:decide (ae<(ab.length:Int))=false:=decide_eq_false c4
   clear c4
   simp only[Option.some.injEq,Prod.mk.injEq]at H
   obtain⟨rfl,rfl⟩:=H
   have bB:=aj.out
   have bC:=ak.out
   have bf:wr.cell? ⟨af,0,none⟩=some (.bool ad):=(blk_cell aa.out 0).trans rfl
   have bg:wr.cell? ⟨af,1,none⟩=some (.slice al ab.length am):=(blk_cell aa.out 1).trans rfl
   have bh:=blk_frozen aa.out 0
   have bi:=blk_frozen aa.out 1
   obtain⟨aJ,aK,aV⟩:=Kd.R_slice an.out
   subst aV
   have bj:wr.cell? ⟨ai,0,none⟩=some (.bool false):=(blk_cell ac.out 0).trans rfl
   have bk:wr.cell? ⟨ai,1,none⟩=some (.slice none 0 0):=(blk_cell ac.out 1).trans rfl
   have bl:=blk_frozen ac.out 0
   have bn:=blk_frozen ac.out 1
   go_wp2
   refine bodyPost_ret (results_cell_row rfl _ _ ai 25 #[.bool ad,.slice aJ ah.length aK] (0,0) _ rfl (kpu #[.bool ad,.slice none 0 0] 1 (kpu #[.bool false,.slice none 0 0] 0 (kbu ac.out))) Tryz.underlying25 rfl X0) rfl ?_
   exact⟨_,B0,by(with_reducible repeat (first|apply Kd.R_alloc|apply Kd.R_drewN|apply Kd.R_drew));exact Kd.R_mono (Kd.R_far (p:=⟨ai,1,none⟩) (Kd.R_far (p:=⟨ai,0,none⟩) (Kd.R_types an.out ac.out J0) (fun _ hk=>hk.2) (.bool ad)) (fun _ hk=>hk.2) (.slice aJ ah.length aK)) (fun _ hk=>trivial),by repeat (first|(with_reducible first|exact HB.out|apply below_alloc|apply pw_below_drewN|apply below_drew1|refine below_set ?_ ap.out|refine below_set ?_ aq.out)|exact HB.out)⟩
def tribunalref02_timesD.l0:Nat→List Int→Int→List Int→Int→Int→Option (List Int)
 | 0,_,_,_,_,_=>none
 | k+1,x0,x1,x5,x6,x7=>if x7<(x0.length:Int) then(if 0≤x7 then(if x5.length<70368744177664 then(tribunalref02_timesD.l0 k x0 x1 (x5++[IntKind.u16.wrap ((x6+(((rd x0 x7)%4294967296)*x1))%4294967296)]) (((x6+(((rd x0 x7)%4294967296)*x1))%4294967296)/65536) (wrap64 (x7+1))) else(none)) else(none)) else(if x5.length<70368744177664 then((tribunalref02_trim.f k (x5++[IntKind.u16.wrap (x6)])).bind fun t927=>(some t927)) else(none))
def tribunalref02_timesD.f (k:Nat) (l0:List Int) (a1:Int):Option (List Int):=tribunalref02_timesD.l0 k l0 a1 ([]:List Int) 0 0
theorem tribunalref02_timesD.calls (k:Nat) (A0:Option Addr) (c0:Nat) (l0:List Int) (a1:Int) (r:List Int) (w:World) (hr0:Kd.C (Kd.int .u16) w A0 l0.length l0) (hc0:l0.length≤c0) (h:tribunalref02_timesD.f k l0 a1=some r) :
  Calls Tryz.prog 157 #[.slice A0 l0.length c0,.int .u32 a1] w fun e w'=>∃v0_:Value,e=.returned (v0_)∧Kd.V (Kd.int .u16) 83 w' w.heap.size (fun k_=>(w.heap.size≤k_)) v0_ r∧Below w.heap.size w w':=by
 have HR0:=Aside0.mk hr0
 have HC0:=Aside0.mk hc0
 clear hr0 hc0
 have HB:=Aside0.mk (Below.refl w.heap.size w)
 have H:(tribunalref02_timesD.l0 k l0 a1 ([]:List Int) 0 0)=some r:=h
 clear h
 have H':=Aside0.mk H
 clear H
 go_enter Tryz.func157,Tryz.ntmps157
 go_wp2
 go_loopg [5,6,7] k (fun kq v5 v6 v7 w'=>∃(ac:List Int) (ab:Int) (aa:Int),v6=.int .u32 ab∧v7=.int .i64 aa∧Aside0 (tribunalref02_timesD.l0 kq l0 a1 ac ab aa=some r)∧Aside0 (kq≤k)∧Aside0 (Kd.R (Kd.int .u16) 83 w' w.heap.size (fun k_=>(w.heap.size≤k_)) v5 ac)∧Aside0 (Below w.heap.size w w'))
 case atStart=>exact⟨(([]:List Int)),(0),(0),Y0,Y0,H',⟨Nat.le_refl _⟩,⟨D0⟩,⟨khu HB.out⟩⟩
 case round=>
  clear H'
  try clear c1
  try clear p2
  obtain⟨ac,ab,aa,rfl,rfl,HA,HK1,ah,HB⟩:=hrel
  cases gk with
  | zero=>exact absurd HA.out (by simp[tribunalref02_timesD.l0])
  | succ k1=>
   have H:=HA.out
   clear HA
   simp only[tribunalref02_timesD.l0]at H
   by_cases c3:aa<(l0.length:Int)
   ·rw[if_pos c3]at H
    have av:decide (aa<(l0.length:Int))=true:=decide_eq_true c3
    clear c3
    by_cases c4:0≤aa
    ·rw[if_pos c4]at H
     have aC:decide (0≤aa)=true:=decide_eq_true c4
     clear c4
     by_cases c5:ac.length<70368744177664
     ·rw[if_pos c5]at H
      have aw:=Aside0.mk c5
      clear c5
      obtain⟨am,ad⟩:∃y_:List Int,y_=(ac++[IntKind.u16.wrap ((ab+(((rd l0 aa)%4294967296)*a1))%4294967296)]):=⟨_,rfl⟩
      replace H:(tribunalref02_timesD.l0 k1 l0 a1 am (((ab+(((rd l0 aa)%4294967296)*a1))%4294967296)/65536) (wrap64 (aa+1)))=some r:=by first|(rw[ad];with_reducible exact H)|(have H2_:=(Option.bind_some _ _).symm.trans H;rw[ad];with_reducible exact H2_)|(have H2_:=(Option.bind_some _ _).symm.trans H;with_reducible exact H2_)|with_reducible exact H|(rw[ad];exact H)|exact H
      have ap:=Aside0.mk ad
      clear ad
      have H':=Aside0.mk H
      clear H
      have ak:0≤(aa:Int):=of_decide_eq_true ‹_›
      have al:aa<(l0.length:Int):=of_decide_eq_true ‹_›
      obtain⟨aA,ax,ag⟩:=Kd.at_int HR0.out aa ak al
      cases ax
      replace ag:=(HB.out.cell (World.block_lt_of_cell? w _ ag)).trans ag
      replace ak:=eq_true ak
      replace al:=eq_true al
      go_wp2_with (first|((with_reducible refine gate_builtin (b:=.append) (xs:=#[.tmp 23,.tmp 26]) rfl ?_);at_builtin;refine Kd.R_append (Kd.int .u16) (w0:=w) w.heap.size rfl (.tmp 23) (.tmp 26) 71 83 (.int .u16 0) 2 rfl Tryz.underlying71 info83 rfl J0 Z0 u5 ac (IntKind.u16.wrap ((ab+(((rd l0 aa)%4294967296)*a1))%4294967296)) [.int .u16 (IntKind.u16.wrap ((ab+(((rd l0 aa)%4294967296)*a1))%4294967296))] (fun k_=>(w.heap.size≤k_)) (fun _=>False) rfl rfl ?aP (fun _ hk=>hk.elim) ?aF ?aO ?aB ?aS ?aL ?_;(case aP=>exact rfl);(case aB=>exact(khu HB.out));(case aF=>exact(fun k_ hk=>(Nat.le_trans (below_size (khu HB.out)) hk)));(case aO=>exact(kru ah.out));(case aS=>exact(below_size (khu HB.out)));(case aL=>have:=aw.out;omega);intro aD w6 ho hb hg hat;rw[←ap.out]at ho;replace HB:=Aside0.mk (hb);have aq:=Aside0.mk (ho);clear ah;clear ho hb hg hat))
      go_roundg k1
      case measure=>have:=HK1.out;omega
      case rel=>exact⟨(am),(((ab+(((rd l0 aa)%4294967296)*a1))%4294967296)/65536),(wrap64 (aa+1)),Y0,Y0,H',⟨Y3⟩,⟨kru aq.out⟩,⟨khu HB.out⟩⟩
     rw[if_neg c5]at H
     exact absurd H Z1
    rw[if_neg c4]at H
    exact absurd H Z1
   rw[if_neg c3]at H
   have av:decide (aa<(l0.length:Int))=false:=decide_eq_false c3
   clear c3
   by_cases c7:ac.length<70368744177664
   ·rw[if_pos c7]at H
    have ay:=Aside0.mk c7
    clear c7
    obtain⟨ai,ae⟩:∃y_:List Int,y_=(ac++[IntKind.u16.wrap (ab)]):=⟨_,rfl⟩
    replace H:((tribunalref02_trim.f k1 ai).bind fun aj=>(some aj))=some r:=by first|(rw[ae];with_reducible exact H)|(have H2_:=(Option.bind_some _ _).symm.trans H;rw[ae];with_reducible exact H2_)|(have H2_:=(Option.bind_some _ _).symm.trans H;with_reducible exact H2_)|with_reducible exact H|(rw[ae];exact H)|exact H
    have ar:=Aside0.mk ae
    clear ae
    replace H:=Option.bind_eq_some_iff.mp H
    obtain⟨aj,A80,H⟩:=H
    replace H:(some aj)=some r:=H
    have A8:=Aside0.mk A80
    clear A80
    obtain rfl:=Option.some.inj H
    go_wp2_with (first|((with_reducible refine gate_builtin (b:=.append) (xs:=#[.tmp 30,.tmp 33]) rfl ?_);at_builtin;refine Kd.R_append (Kd.int .u16) (w0:=w) w.heap.size rfl (.tmp 30) (.tmp 33) 71 83 (.int .u16 0) 2 rfl Tryz.underlying71 info83 rfl J0 Z0 u5 ac (IntKind.u16.wrap (ab)) [.int .u16 (IntKind.u16.wrap (ab))] (fun k_=>(w.heap.size≤k_)) (fun _=>False) rfl rfl ?aP (fun _ hk=>hk.elim) ?aF ?aO ?aB ?aS ?aL ?_;(case aP=>exact rfl);(case aB=>exact(khu HB.out));(case aF=>exact(fun k_ hk=>(Nat.le_trans (below_size (khu HB.out)) hk)));(case aO=>exact(kru ah.out));(case aS=>exact(below_size (khu HB.out)));(case aL=>have:=ay.out;omega);intro aE w9 ho hb hg hat;rw[←ar.out]at ho;replace HB:=Aside0.mk (hb);have af:=Aside0.mk (ho);clear ah;clear ho hb hg hat;obtain⟨an,ao,az⟩:=Kd.R_slice af.out;subst az)|((with_reducible refine gate_callee (f:=158) rfl ?_);refine kgl (some 35) rfl rfl Tryz.func158 #[.slice an ai.length ao] rfl ?_;(with_reducible refine(tribunalref02_trim.calls k1 (fun k_=>some k_=(.slice an ai.length ao:Value).ownBlock) _ _ ai aj _ ?side1 A8.out).mono ?_);(case side1=>exact Kd.R_V (Kd.R_tight rfl (af.out)));rintro e w11 ⟨aG,rfl,ho0,hb⟩;refine⟨_,rfl,?_⟩;have au:=Aside0.mk (Kd.V_lower (Kd.V_mono (ok':=fun k_=>(w.heap.size≤k_)) ho0 (fun k_ hk_=>Or.elim hk_ (fun hs_=>((af.out).1 k_ hs_.symm)) (fun hn_=>(Nat.le_trans (below_size (khu HB.out)) hn_)))) (below_size (khu HB.out)));replace af:=krb af hb;replace HB:=kbs HB hb;(try clear hb);(try clear hb2);(try clear hk);(try clear hi);(try clear ho0)))
    go_ret
    exact⟨_,B0,kvu au.out,khu HB.out⟩
   rw[if_neg c7]at H
   exact absurd H Z1
def tribunalref02_cmpD.l0:Nat→List Int→List Int→Int→Option (Int)
 | 0,_,_,_=>none
 | k+1,x0,x1,x5=>if x5≥0 then(if 0≤x5 then(if x5<(x0.length:Int) then(if x5<(x1.length:Int) then(if(rd x0 x5)<(rd x1 x5) then(some (-1)) else(if(rd x0 x5)>(rd x1 x5) then(some 1) else(tribunalref02_cmpD.l0 k x0 x1 (wrap64 (x5-1))))) else(none)) else(none)) else(none)) else(some 0)
def tribunalref02_cmpD.f (k:Nat) (l0:List Int) (l1:List Int):Option (Int):=if(l0.length:Int)=(l1.length:Int) then(tribunalref02_cmpD.l0 k l0 l1 (wrap64 ((l0.length:Int)-1))) else(if(l0.length:Int)<(l1.length:Int) then(some (-1)) else(some 1))
theorem tribunalref02_cmpD.calls (k:Nat) (A0:Option Addr) (c0:Nat) (l0:List Int) (A1:Option Addr) (c1:Nat) (l1:List Int) (r:Int) (w:World) (hr0:Kd.C (Kd.int .u16) w A0 l0.length l0) (hc0:l0.length≤c0) (hr1:Kd.C (Kd.int .u16) w A1 l1.length l1) (hc1:l1.length≤c1) (h:tribunalref02_cmpD.f k l0 l1=some r) :
  Calls Tryz.prog 170 #[.slice A0 l0.length c0,.slice A1 l1.length c1] w fun e w'=>e=.returned (.int .i64 r)∧Drawn0 w w':=by
 have HR0:=Aside0.mk hr0
 have HC0:=Aside0.mk hc0
 clear hr0 hc0
 have HR1:=Aside0.mk hr1
 have HC1:=Aside0.mk hc1
 clear hr1 hc1
 have H:(if(l0.length:Int)=(l1.length:Int) then(tribunalref02_cmpD.l0 k l0 l1 (wrap64 ((l0.length:Int)-1))) else(if(l0.length:Int)<(l1.length:Int) then(some (-1)) else(some 1)))=some r:=h
 clear h
 by_cases c3:(l0.length:Int)=(l1.length:Int)
 ·rw [if_pos c3]at H
  have ax:((l0.length:Int)==(l1.length:Int))=true:=beq_iff_eq.mpr c3
  have ay:((l0.length:Int) != (l1.length:Int))=false:=bne_eq_false_iff_eq.mpr c3
  have az:(l0.length==l1.length)=true:=by first|simpa using c3|(simp at c3 ⊢;omega)
  clear c3
  have H':=Aside0.mk H
  clear H
  go_enter Tryz.func170,Tryz.ntmps170
  go_wp2
  repeat (go_quiet (fail);try go_wp2)
  go_loopg [5] k (fun kq v5 w'=>∃(aa:Int),v5=.int .i64 aa∧Aside0 (tribunalref02_cmpD.l0 kq l0 l1 aa=some r)∧Aside0 (kq≤k)∧Drawn0 w w')
  case atStart=>exact⟨(wrap64 ((l0.length:Int)-1)),Y0,H',⟨Nat.le_refl _⟩,Y1⟩
  case round=>
   clear H'
   try clear c1
   try clear p2
   try clear c3
   try clear ax
   try clear ay
   try clear az
   obtain⟨aa,rfl,HA,HK1,⟨m1,rfl⟩⟩:=hrel
   cases gk with
   | zero=>exact absurd HA.out (by simp[tribunalref02_cmpD.l0])
   | succ k1=>
    have H:=HA.out
    clear HA
    simp only[tribunalref02_cmpD.l0]at H
    by_cases c4:aa≥0
    ·rw [if_pos c4]at H
     have aC:decide (0≤aa)=true:=decide_eq_true c4
     clear c4
     by_cases c5:0≤aa
     ·rw [if_pos c5]at H
      have aF:decide (0≤aa)=true:=decide_eq_true c5
      clear c5
      by_cases c6:aa<(l0.length:Int)
      ·rw[if_pos c6]at H
       have aG:decide (aa<(l0.length:Int))=true:=decide_eq_true c6
       clear c6
       by_cases c7:aa<(l1.length:Int)
       ·rw[if_pos c7]at H
        have aH:decide (aa<(l1.length:Int))=true:=decide_eq_true c7
        clear c7
        by_cases c8:(rd l0 aa)<(rd l1 aa)
        ·rw[if_pos c8]at H
         have aD:decide ((rd l0 aa)<(rd l1 aa))=true:=decide_eq_true c8
         clear c8
         obtain rfl:=Option.some.inj H
         have ab:0≤(aa:Int):=of_decide_eq_true ‹_›
         have ac:aa<(l0.length:Int):=of_decide_eq_true ‹_›
         obtain⟨aj,al,an⟩:=Kd.at_int HR0.out aa ab ac
         cases al
         replace ab:=eq_true ab
         replace ac:=eq_true ac
         have ad:0≤(aa:Int):=of_decide_eq_true ‹_›
         have ae:aa<(l1.length:Int):=of_decide_eq_true ‹_›
         obtain⟨ak,am,ao⟩:=Kd.at_int HR1.out aa ad ae
         cases am
         replace ad:=eq_true ad
         replace ae:=eq_true ae
         go_wp2
         repeat (go_quiet (fail);try go_wp2)
         go_ret
         exact⟨Y0,Y1⟩
        rw[if_neg c8]at H
        have aD:decide ((rd l0 aa)<(rd l1 aa))=false:=decide_eq_false c8
        clear c8
        by_cases c9:(rd l0 aa)>(rd l1 aa)
        ·rw[if_pos c9]at H
         have aE:decide ((rd l1 aa)<(rd l0 aa))=true:=decide_eq_true c9
         clear c9
         obtain rfl:=Option.some.inj H
         have ab:0≤(aa:Int):=of_decide_eq_true ‹_›
         have ac:aa<(l0.length:Int):=of_decide_eq_true ‹_›
         obtain⟨aj,al,an⟩:=Kd.at_int HR0.out aa ab ac
         cases al
         replace ab:=eq_true ab
         replace ac:=eq_true ac
         have ad:0≤(aa:Int):=of_decide_eq_true ‹_›
         have ae:aa<(l1.length:Int):=of_decide_eq_true ‹_›
         obtain⟨ak,am,ao⟩:=Kd.at_int HR1.out aa ad ae
         cases am
         replace ad:=eq_true ad
         replace ae:=eq_true ae
         have af:0≤(aa:Int):=of_decide_eq_true ‹_›
         have ag:aa<(l0.length:Int):=of_decide_eq_true ‹_›
         obtain⟨ap,ar,av⟩:=Kd.at_int HR0.out aa af ag
         obtain rfl:aj=ap:=(by injection ar)
         replace af:=eq_true af
         replace ag:=eq_true ag
         have ah:0≤(aa:Int):=of_decide_eq_true ‹_›
         have ai:aa<(l1.length:Int):=of_decide_eq_true ‹_›
         obtain⟨aq,au,aw⟩:=Kd.at_int HR1.out aa ah ai
         obtain rfl:ak=aq:=(by injection au)
         replace ah:=eq_true ah
         replace ai:=eq_true ai
         go_wp2
         repeat (go_quiet (fail);try go_wp2)
         go_ret
         exact⟨Y0,Y1⟩
        rw[if_neg c9]at H
        have aE:decide ((rd l1 aa)<(rd l0 aa))=false:=decide_eq_false c9
        clear c9
        have H':=Aside0.mk H
        clear H
        have ab:0≤(aa:Int):=of_decide_eq_true ‹_›
        have ac:aa<(l0.length:Int):=of_decide_eq_true ‹_›
        obtain⟨aj,al,an⟩:=Kd.at_int HR0.out aa ab ac
        cases al
        replace ab:=eq_true ab
        replace ac:=eq_true ac
        have ad:0≤(aa:Int):=of_decide_eq_true ‹_›
        have ae:aa<(l1.length:Int):=of_decide_eq_true ‹_›
        obtain⟨ak,am,ao⟩:=Kd.at_int HR1.out aa ad ae
        cases am
        replace ad:=eq_true ad
        replace ae:=eq_true ae
        have af:0≤(aa:Int):=of_decide_eq_true ‹_›
        have ag:aa<(l0.length:Int):=of_decide_eq_true ‹_›
        obtain⟨ap,ar,av⟩:=Kd.at_int HR0.out aa af ag
        obtain rfl:aj=ap:=(by injection ar)
        replace af:=eq_true af
        replace ag:=eq_true ag
        have ah:0≤(aa:Int):=of_decide_eq_true ‹_›
        have ai:aa<(l1.length:Int):=of_decide_eq_true ‹_›
        obtain⟨aq,au,aw⟩:=Kd.at_int HR1.out aa ah ai
        obtain rfl:ak=aq:=(by injection au)
        replace ah:=eq_true ah
        replace ai:=eq_true ai
        go_wp2
        repeat (go_quiet (fail);try go_wp2)
        go_roundg k1
        case measure=>have:=HK1.out;omega
        case rel=>exact⟨(wrap64 (aa-1)),Y0,H',⟨Y3⟩,Y1⟩
       rw[if_neg c7]at H
       exact absurd H Z1
      rw[if_neg c6]at H
      exact absurd H Z1
     rw[if_neg c5]at H
     exact absurd H Z1
    rw[if_neg c4]at H
    have aC:decide (0≤aa)=false:=decide_eq_false c4
    clear c4
    obtain rfl:=Option.some.inj H
    go_wp2
    repeat (go_quiet (fail);try go_wp2)
    go_ret
    exact⟨Y0,Y1⟩
 rw[if_neg c3]at H
 have ax:((l0.length:Int)==(l1.length:Int))=false:=beq_eq_false_iff_ne.mpr c3
 have ay:((l0.length:Int) != (l1.length:Int))=true:=bne_iff_ne.mpr c3
 have az:(l0.length==l1.length)=false:=by first|simpa using c3|(simp at c3 ⊢;omega)
 by_cases c10:(l0.length:Int)<(l1.length:Int)
 ·rw[if_pos c10]at H
  have aA:decide ((l0.length:Int)<(l1.length:Int))=true:=decide_eq_true c10
  have aB:decide (l0.length<l1.length)=true:=decide_eq_true (Int.ofNat_lt.mp c10)
  clear c10
  obtain rfl:=Option.some.inj H
  go_enter Tryz.func170,Tryz.ntmps170
  go_wp2
  repeat (go_quiet (fail);try go_wp2)
  go_ret
  exact⟨Y0,Y1⟩
 rw[if_neg c10]at H
 have aA:decide ((l0.length:Int)<(l1.length:Int))=false:=decide_eq_false c10
 have aB:decide (l0.length<l1.length)=false:=decide_eq_false (fun h=>c10 (Int.ofNat_lt.mpr h))
 clear c10
 obtain rfl:=Option.some.inj H
 go_enter Tryz.func170,Tryz.ntmps170
 go_wp2
 repeat (go_quiet (fail);try go_wp2)
 go_ret
 exact⟨Y0,Y1⟩
def tribunalref02_subD.l0:Nat→List Int→List Int→List Int→Int→Int→Option (List Int)
 | 0,_,_,_,_,_=>none
 | k+1,x0,x1,x5,x6,x7=>if x7<(x0.length:Int) then(if 0≤x7 then(if x7<(x1.length:Int) then(if(wrap32 ((wrap32 ((wrap32 (rd x0 x7))-x6))-(wrap32 (rd x1 x7))))<0 then(if x5.length<70368744177664 then(tribunalref02_subD.l0 k x0 x1 (x5++[IntKind.u16.wrap (wrap32 ((wrap32 ((wrap32 ((wrap32 (rd x0 x7))-x6))-(wrap32 (rd x1 x7))))+65536))]) 1 (wrap64 (x7+1))) else(none)) else(if x5.length<70368744177664 then(tribunalref02_subD.l0 k x0 x1 (x5++[IntKind.u16.wrap (wrap32 ((wrap32 ((wrap32 (rd x0 x7))-x6))-(wrap32 (rd x1 x7))))]) 0 (wrap64 (x7+1))) else(none))) else(if(wrap32 ((wrap32 (rd x0 x7))-x6))<0 then(if x5.length<70368744177664 then(tribunalref02_subD.l0 k x0 x1 (x5++[IntKind.u16.wrap (wrap32 ((wrap32 ((wrap32 (rd x0 x7))-x6))+65536))]) 1 (wrap64 (x7+1))) else(none)) else(if x5.length<70368744177664 then(tribunalref02_subD.l0 k x0 x1 (x5++[IntKind.u16.wrap (wrap32 ((wrap32 (rd x0 x7))-x6))]) 0 (wrap64 (x7+1))) else(none)))) else(none)) else((tribunalref02_trim.f k x5).bind fun t934=>(some t934))
def tribunalref02_subD.f (k:Nat) (l0:List Int) (l1:List Int):Option (List Int):=tribunalref02_subD.l0 k l0 l1 ([]:List Int) 0 0
theorem tribunalref02_subD.calls (k:Nat) (A0:Option Addr) (c0:Nat) (l0:List Int) (A1:Option Addr) (c1:Nat) (l1:List Int) (r:List Int) (w:World) (hr0:Kd.C (Kd.int .u16) w A0 l0.length l0) (hc0:l0.length≤c0) (hr1:Kd.C (Kd.int .u16) w A1 l1.length l1) (hc1:l1.length≤c1) (h:tribunalref02_subD.f k l0 l1=some r) :
  Calls Tryz.prog 171 #[.slice A0 l0.length c0,.slice A1 l1.length c1] w fun e w'=>∃v0_:Value,e=.returned (v0_)∧Kd.V (Kd.int .u16) 83 w' w.heap.size (fun k_=>(w.heap.size≤k_)) v0_ r∧Below w.heap.size w w':=by
 have HR0:=Aside0.mk hr0
 have HC0:=Aside0.mk hc0
 clear hr0 hc0
 have HR1:=Aside0.mk hr1
 have HC1:=Aside0.mk hc1
 clear hr1 hc1
 have HB:=Aside0.mk (Below.refl w.heap.size w)
 have H:(tribunalref02_subD.l0 k l0 l1 ([]:List Int) 0 0)=some r:=h
 clear h
 have H':=Aside0.mk H
 clear H
 go_enter Tryz.func171,Tryz.ntmps171
 go_wp2
 go_loopg [5,6,7] k (fun kq v5 v6 v7 w'=>∃(ad:List Int) (ac:Int) (aa:Int),v6=.int .i32 ac∧v7=.int .i64 aa∧Aside0 (tribunalref02_subD.l0 kq l0 l1 ad ac aa=some r)∧Aside0 (kq≤k)∧Aside0 (Kd.R (Kd.int .u16) 83 w' w.heap.size (fun k_=>(w.heap.size≤k_)) v5 ad)∧Aside0 (Below w.heap.size w w'))
 case atStart=>exact⟨(([]:List Int)),(0),(0),Y0,Y0,H',⟨Nat.le_refl _⟩,⟨D0⟩,⟨khu HB.out⟩⟩
 case round=>
  clear H'
  try clear c1
  try clear p2
  obtain⟨ad,ac,aa,rfl,rfl,HA,HK1,ag,HB⟩:=hrel
  cases gk with
  | zero=>exact absurd HA.out (by simp[tribunalref02_subD.l0])
  | succ k1=>
   have H:=HA.out
   clear HA
   simp only[tribunalref02_subD.l0]at H
   by_cases c3:aa<(l0.length:Int)
   ·rw [if_pos c3]at H
    have aU:decide (aa<(l0.length:Int))=true:=decide_eq_true c3
    clear c3
    by_cases c4:0≤aa
    ·rw [if_pos c4]at H
     have bb:decide (0≤aa)=true:=decide_eq_true c4
     clear c4
     by_cases c5:aa<(l1.length:Int)
     ·rw[if_pos c5]at H
      have aV:decide (aa<(l1.length:Int))=true:=decide_eq_true c5
      clear c5
      by_cases c6:(wrap32 ((wrap32 ((wrap32 (rd l0 aa))-ac))-(wrap32 (rd l1 aa))))<0
      ·rw[if_pos c6]at H
       have aW:decide ((wrap32 ((wrap32 ((wrap32 (rd l0 aa))-ac))-(wrap32 (rd l1 aa))))<0)=true:=decide_eq_true c6
       clear c6
       by_cases c7:ad.length<70368744177664
       ·rw[if_pos c7]at H
        have aX:=Aside0.mk c7
        clear c7
        obtain⟨ar,al⟩:∃y_:List Int,y_=(ad++[IntKind.u16.wrap (wrap32 ((wrap32 ((wrap32 ((wrap32 (rd l0 aa))-ac))-(wrap32 (rd l1 aa))))+65536))]):=⟨_,rfl⟩
        replace H:(tribunalref02_subD.l0 k1 l0 l1 ar 1 (wrap64 (aa+1)))=some r:=by first|(rw[al];with_reducible exact H)|(have H2_:=(Option.bind_some _ _).symm.trans H;rw[al];with_reducible exact H2_)|(have H2_:=(Option.bind_some _ _).symm.trans H;with_reducible exact H2_)|with_reducible exact H|(rw[al];exact H)|exact H
        have aC:=Aside0.mk al
        clear al
        have H':=Aside0.mk H
        clear H
        have ae:0≤(aa:Int):=of_decide_eq_true ‹_›
        have af:aa<(l0.length:Int):=of_decide_eq_true ‹_›
        obtain⟨ap,ai,ab⟩:=Kd.at_int HR0.out aa ae af
        cases ai
        replace ab:=(HB.out.cell (World.block_lt_of_cell? w _ ab)).trans ab
        replace ae:=eq_true ae
        replace af:=eq_true af
        have aj:0≤(aa:Int):=of_decide_eq_true ‹_›
        have ak:aa<(l1.length:Int):=of_decide_eq_true ‹_›
        obtain⟨aD,aq,ah⟩:=Kd.at_int HR1.out aa aj ak
        cases aq
        replace ah:=(HB.out.cell (World.block_lt_of_cell? w _ ah)).trans ah
        replace aj:=eq_true aj
        replace ak:=eq_true ak
        go_wp2_with (first|((with_reducible refine gate_builtin (b:=.append) (xs:=#[.tmp 37,.tmp 40]) rfl ?_);at_builtin;refine Kd.R_append (Kd.int .u16) (w0:=w) w.heap.size rfl (.tmp 37) (.tmp 40) 71 83 (.int .u16 0) 2 rfl Tryz.underlying71 info83 rfl J0 Z0 u5 ad (IntKind.u16.wrap (wrap32 ((wrap32 ((wrap32 ((wrap32 (rd l0 aa))-ac))-(wrap32 (rd l1 aa))))+65536))) [.int .u16 (IntKind.u16.wrap (wrap32 ((wrap32 ((wrap32 ((wrap32 (rd l0 aa))-ac))-(wrap32 (rd l1 aa))))+65536)))] (fun k_=>(w.heap.size≤k_)) (fun _=>False) rfl rfl ?aP (fun _ hk=>hk.elim) ?aF ?aO ?aB ?aS ?aL ?_;(case aP=>exact rfl);(case aB=>exact(khu HB.out));(case aF=>exact(fun k_ hk=>(Nat.le_trans (below_size (khu HB.out)) hk)));(case aO=>exact(kru ag.out));(case aS=>exact(below_size (khu HB.out)));(case aL=>have:=aX.out;omega);intro bc w8 ho hb hg hat;rw[←aC.out]at ho;replace HB:=Aside0.mk (hb);have aE:=Aside0.mk (ho);clear ag;clear ho hb hg hat))
        go_roundg k1
        case measure=>have:=HK1.out;omega
        case rel=>exact⟨(ar),(1),(wrap64 (aa+1)),Y0,Y0,H',⟨Y3⟩,⟨kru aE.out⟩,⟨khu HB.out⟩⟩
       rw[if_neg c7]at H
       exact absurd H Z1
      rw[if_neg c6]at H
      have aW:decide ((wrap32 ((wrap32 ((wrap32 (rd l0 aa))-ac))-(wrap32 (rd l1 aa))))<0)=false:=decide_eq_false c6
      clear c6
      by_cases c9:ad.length<70368744177664
      ·rw[if_pos c9]at H
       have aY:=Aside0.mk c9
       clear c9
       obtain⟨au,am⟩:∃y_:List Int,y_=(ad++[IntKind.u16.wrap (wrap32 ((wrap32 ((wrap32 (rd l0 aa))-ac))-(wrap32 (rd l1 aa))))]):=⟨_,rfl⟩
       replace H:(tribunalref02_subD.l0 k1 l0 l1 au 0 (wrap64 (aa+1)))=some r:=by first|(rw[am];with_reducible exact H)|(have H2_:=(Option.bind_some _ _).symm.trans H;rw[am];with_reducible exact H2_)|(have H2_:=(Option.bind_some _ _).symm.trans H;with_reducible exact H2_)|with_reducible exact H|(rw[am];exact H)|exact H
       have aG:=Aside0.mk am
       clear am
       have H':=Aside0.mk H
       clear H
       have ae:0≤(aa:Int):=of_decide_eq_true ‹_›
       have af:aa<(l0.length:Int):=of_decide_eq_true ‹_›
       obtain⟨ap,ai,ab⟩:=Kd.at_int HR0.out aa ae af
       cases ai
       replace ab:=(HB.out.cell (World.block_lt_of_cell? w _ ab)).trans ab
       replace ae:=eq_true ae
       replace af:=eq_true af
       have aj:0≤(aa:Int):=of_decide_eq_true ‹_›
       have ak:aa<(l1.length:Int):=of_decide_eq_true ‹_›
       obtain⟨aD,aq,ah⟩:=Kd.at_int HR1.out aa aj ak
       cases aq
       replace ah:=(HB.out.cell (World.block_lt_of_cell? w _ ah)).trans ah
       replace aj:=eq_true aj
       replace ak:=eq_true ak
       go_wp2_with (first|((with_reducible refine gate_builtin (b:=.append) (xs:=#[.tmp 37,.tmp 40]) rfl ?_);at_builtin;refine Kd.R_append (Kd.int .u16) (w0:=w) w.heap.size rfl (.tmp 37) (.tmp 40) 71 83 (.int .u16 0) 2 rfl Tryz.underlying71 info83 rfl J0 Z0 u5 ad (IntKind.u16.wrap (wrap32 ((wrap32 ((wrap32 (rd l0 aa))-ac))-(wrap32 (rd l1 aa))))) [.int .u16 (IntKind.u16.wrap (wrap32 ((wrap32 ((wrap32 (rd l0 aa))-ac))-(wrap32 (rd l1 aa)))))] (fun k_=>(w.heap.size≤k_)) (fun _=>False) rfl rfl ?aP (fun _ hk=>hk.elim) ?aF ?aO ?aB ?aS ?aL ?_;(case aP=>exact rfl);(case aB=>exact(khu HB.out));(case aF=>exact(fun k_ hk=>(Nat.le_trans (below_size (khu HB.out)) hk)));(case aO=>exact(kru ag.out));(case aS=>exact(below_size (khu HB.out)));(case aL=>have:=aY.out;omega);intro bd w10 ho hb hg hat;rw[←aG.out]at ho;replace HB:=Aside0.mk (hb);have aH:=Aside0.mk (ho);clear ag;clear ho hb hg hat))
       go_roundg k1
       case measure=>have:=HK1.out;omega
       case rel=>exact⟨(au),(0),(wrap64 (aa+1)),Y0,Y0,H',⟨Y3⟩,⟨kru aH.out⟩,⟨khu HB.out⟩⟩
      rw[if_neg c9]at H
      exact absurd H Z1
     rw[if_neg c5]at H
     have aV:decide (aa<(l1.length:Int))=false:=decide_eq_false c5
     clear c5
     by_cases c11:(wrap32 ((wrap32 (rd l0 aa))-ac))<0
     ·rw[if_pos c11]at H
      have aI:decide ((wrap32 ((wrap32 (rd l0 aa))-ac))<0)=true:=decide_eq_true c11
      clear c11
      by_cases c12:ad.length<70368744177664
      ·rw[if_pos c12]at H
       have aJ:=Aside0.mk c12
       clear c12
       obtain⟨av,an⟩:∃y_:List Int,y_=(ad++[IntKind.u16.wrap (wrap32 ((wrap32 ((wrap32 (rd l0 aa))-ac))+65536))]):=⟨_,rfl⟩
       replace H:(tribunalref02_subD.l0 k1 l0 l1 av 1 (wrap64 (aa+1)))=some r:=by first|(rw[an];with_reducible exact H)|(have H2_:=(Option.bind_some _ _).symm.trans H;rw[an];with_reducible exact H2_)|(have H2_:=(Option.bind_some _ _).symm.trans H;with_reducible exact H2_)|with_reducible exact H|(rw[an];exact H)|exact H
       have aK:=Aside0.mk an
       clear an
       have H':=Aside0.mk H
       clear H
       have ae:0≤(aa:Int):=of_decide_eq_true ‹_›
       have af:aa<(l0.length:Int):=of_decide_eq_true ‹_›
       obtain⟨ap,ai,ab⟩:=Kd.at_int HR0.out aa ae af
       cases ai
       replace ab:=(HB.out.cell (World.block_lt_of_cell? w _ ab)).trans ab
       replace ae:=eq_true ae
       replace af:=eq_true af
       go_wp2_with (first|((with_reducible refine gate_builtin (b:=.append) (xs:=#[.tmp 37,.tmp 40]) rfl ?_);at_builtin;refine Kd.R_append (Kd.int .u16) (w0:=w) w.heap.size rfl (.tmp 37) (.tmp 40) 71 83 (.int .u16 0) 2 rfl Tryz.underlying71 info83 rfl J0 Z0 u5 ad (IntKind.u16.wrap (wrap32 ((wrap32 ((wrap32 (rd l0 aa))-ac))+65536))) [.int .u16 (IntKind.u16.wrap (wrap32 ((wrap32 ((wrap32 (rd l0 aa))-ac))+65536)))] (fun k_=>(w.heap.size≤k_)) (fun _=>False) rfl rfl ?aP (fun _ hk=>hk.elim) ?aF ?aO ?aB ?aS ?aL ?_;(case aP=>exact rfl);(case aB=>exact(khu HB.out));(case aF=>exact(fun k_ hk=>(Nat.le_trans (below_size (khu HB.out)) hk)));(case aO=>exact(kru ag.out));(case aS=>exact(below_size (khu HB.out)));(case aL=>have:=aJ.out;omega);intro be w13 ho hb hg hat;rw[←aK.out]at ho;replace HB:=Aside0.mk (hb);have aM:=Aside0.mk (ho);clear ag;clear ho hb hg hat))
       go_roundg k1
       case measure=>have:=HK1.out;omega
       case rel=>exact⟨(av),(1),(wrap64 (aa+1)),Y0,Y0,H',⟨Y3⟩,⟨kru aM.out⟩,⟨khu HB.out⟩⟩
      rw[if_neg c12]at H
      exact absurd H Z1
     rw[if_neg c11]at H
     have aI:decide ((wrap32 ((wrap32 (rd l0 aa))-ac))<0)=false:=decide_eq_false c11
     clear c11
     by_cases c14:ad.length<70368744177664
     ·rw[if_pos c14]at H
      have aN:=Aside0.mk c14
      clear c14
      obtain⟨aw,ao⟩:∃y_:List Int,y_=(ad++[IntKind.u16.wrap (wrap32 ((wrap32 (rd l0 aa))-ac))]):=⟨_,rfl⟩
      replace H:(tribunalref02_subD.l0 k1 l0 l1 aw 0 (wrap64 (aa+1)))=some r:=by first|(rw[ao];with_reducible exact H)|(have H2_:=(Option.bind_some _ _).symm.trans H;rw[ao];with_reducible exact H2_)|(have H2_:=(Option.bind_some _ _).symm.trans H;with_reducible exact H2_)|with_reducible exact H|(rw[ao];exact H)|exact H
      have aQ:=Aside0.mk ao
      clear ao
      have H':=Aside0.mk H
      clear H
      have ae:0≤(aa:Int):=of_decide_eq_true ‹_›
      have af:aa<(l0.length:Int):=of_decide_eq_true ‹_›
      obtain⟨ap,ai,ab⟩:=Kd.at_int HR0.out aa ae af
      cases ai
      replace ab:=(HB.out.cell (World.block_lt_of_cell? w _ ab)).trans ab
      replace ae:=eq_true ae
      replace af:=eq_true af
      go_wp2_with (first|((with_reducible refine gate_builtin (b:=.append) (xs:=#[.tmp 37,.tmp 40]) rfl ?_);at_builtin;refine Kd.R_append (Kd.int .u16) (w0:=w) w.heap.size rfl (.tmp 37) (.tmp 40) 71 83 (.int .u16 0) 2 rfl Tryz.underlying71 info83 rfl J0 Z0 u5 ad (IntKind.u16.wrap (wrap32 ((wrap32 (rd l0 aa))-ac))) [.int .u16 (IntKind.u16.wrap (wrap32 ((wrap32 (rd l0 aa))-ac)))] (fun k_=>(w.heap.size≤k_)) (fun _=>False) rfl rfl ?aP (fun _ hk=>hk.elim) ?aF ?aO ?aB ?aS ?aL ?_;(case aP=>exact rfl);(case aB=>exact(khu HB.out));(case aF=>exact(fun k_ hk=>(Nat.le_trans (below_size (khu HB.out)) hk)));(case aO=>exact(kru ag.out));(case aS=>exact(below_size (khu HB.out)));(case aL=>have:=aN.out;omega);intro bf w15 ho hb hg hat;rw[←aQ.out]at ho;replace HB:=Aside0.mk (hb);have aR:=Aside0.mk (ho);clear ag;clear ho hb hg hat))
      go_roundg k1
      case measure=>have:=HK1.out;omega
      case rel=>exact⟨(aw),(0),(wrap64 (aa+1)),Y0,Y0,H',⟨Y3⟩,⟨kru aR.out⟩,⟨khu HB.out⟩⟩
     rw[if_neg c14]at H
     exact absurd H Z1
    rw[if_neg c4]at H
    exact absurd H Z1
   rw[if_neg c3]at H
   have aU:decide (aa<(l0.length:Int))=false:=decide_eq_false c3
   clear c3
   replace H:=Option.bind_eq_some_iff.mp H
   obtain⟨ax,ay,H⟩:=H
   replace H:(some ax)=some r:=H
   have A16:=Aside0.mk ay
   clear ay
   obtain rfl:=Option.some.inj H
   obtain⟨az,aA,aZ⟩:=Kd.R_slice ag.out
   subst aZ
   go_wp2_with (first|((with_reducible refine gate_callee (f:=158) rfl ?_);refine kgl (some 43) rfl rfl Tryz.func158 #[.slice az ad.length aA] rfl ?_;(with_reducible refine(tribunalref02_trim.calls k1 (fun k_=>some k_=(.slice az ad.length aA:Value).ownBlock) _ _ ad ax _ ?side1 A16.out).mono ?_);(case side1=>exact Kd.R_V (Kd.R_tight rfl (ag.out)));rintro e w18 ⟨bg,rfl,ho0,hb⟩;refine⟨_,rfl,?_⟩;have aT:=Aside0.mk (Kd.V_lower (Kd.V_mono (ok':=fun k_=>(w.heap.size≤k_)) ho0 (fun k_ hk_=>Or.elim hk_ (fun hs_=>((ag.out).1 k_ hs_.symm)) (fun hn_=>(Nat.le_trans (below_size (khu HB.out)) hn_)))) (below_size (khu HB.out)));replace ag:=krb ag hb;replace HB:=kbs HB hb;(try clear hb);(try clear hb2);(try clear hk);(try clear hi);(try clear ho0)))
   go_ret
   exact⟨_,B0,kvu aT.out,khu HB.out⟩
def tribunalref02_digit.l0:Nat→List Int→List Int→Int→Int→Option (Int×List Int)
 | 0,_,_,_,_=>none
 | k+1,x0,x1,x6,x7=>if x6<x7 then((tribunalref02_timesD.f k x1 ((((x6+x7)+1)%4294967296)/2)).bind fun t957=>((tribunalref02_cmpD.f k t957 x0).bind fun t960=>(if t960≤0 then(tribunalref02_digit.l0 k x0 x1 ((((x6+x7)+1)%4294967296)/2) x7) else(tribunalref02_digit.l0 k x0 x1 x6 ((((((x6+x7)+1)%4294967296)/2)-1)%4294967296))))) else((tribunalref02_timesD.f k x1 x6).bind fun t951=>((tribunalref02_subD.f k x0 t951).bind fun t954=>(some (IntKind.u16.wrap (x6),t954))))
def tribunalref02_digit.f (k:Nat) (l0:List Int) (l1:List Int):Option (Int×List Int):=tribunalref02_digit.l0 k l0 l1 0 65535
theorem tribunalref02_digit.calls (k:Nat) (A0:Option Addr) (c0:Nat) (l0:List Int) (A1:Option Addr) (c1:Nat) (l1:List Int) (r1:Int) (r2:List Int) (w:World) (hr0:Kd.C (Kd.int .u16) w A0 l0.length l0) (hc0:l0.length≤c0) (hr1:Kd.C (Kd.int .u16) w A1 l1.length l1) (hc1:l1.length≤c1) (h:tribunalref02_digit.f k l0 l1=some (r1,r2)) :
  Calls Tryz.prog 225 #[.slice A0 l0.length c0,.slice A1 l1.length c1] w fun e w'=>∃v1_:Value,e=.returned (.tuple #[.int .u16 r1,v1_])∧Kd.V (Kd.int .u16) 83 w' w.heap.size (fun k_=>(w.heap.size≤k_)) v1_ r2∧Below w.heap.size w w':=by
 have HR0:=Aside0.mk hr0
 have HC0:=Aside0.mk hc0
 clear hr0 hc0
 have HR1:=Aside0.mk hr1
 have HC1:=Aside0.mk hc1
 clear hr1 hc1
 have HB:=Aside0.mk (Below.refl w.heap.size w)
 have H:(tribunalref02_digit.l0 k l0 l1 0 65535)=some (r1,r2):=h
 clear h
 have H':=Aside0.mk H
 clear H
 go_enter Tryz.func225,Tryz.ntmps225
 go_wp2
 go_loopg [6,7] k (fun kq v6 v7 w'=>∃(aa:Int) (ab:Int),v6=.int .u32 aa∧v7=.int .u32 ab∧Aside0 (tribunalref02_digit.l0 kq l0 l1 aa ab=some (r1,r2))∧Aside0 (kq≤k)∧Aside0 (Below w.heap.size w w'))
 case atStart=>exact⟨(0),(65535),Y0,Y0,H',⟨Nat.le_refl _⟩,⟨khu HB.out⟩⟩
 case round=>
  clear H'
  try clear c1
  try clear c2
  try clear p2
  obtain⟨aa,ab,rfl,rfl,HA,HK1,HB⟩:=hrel
  cases gk with
  | zero=>exact absurd HA.out (by simp[tribunalref02_digit.l0])
  | succ k1=>
   have H:=HA.out
   clear HA
   simp only[tribunalref02_digit.l0]at H
   by_cases c3:aa<ab
   ·rw[if_pos c3]at H
    have al:decide (aa<ab)=true:=decide_eq_true c3
    clear c3
    replace H:=Option.bind_eq_some_iff.mp H
    obtain⟨ae,A40,H⟩:=H
    replace H:((tribunalref02_cmpD.f k1 ae l0).bind fun ad=>(if ad≤0 then(tribunalref02_digit.l0 k1 l0 l1 ((((aa+ab)+1)%4294967296)/2) ab) else(tribunalref02_digit.l0 k1 l0 l1 aa ((((((aa+ab)+1)%4294967296)/2)-1)%4294967296))))=some (r1,r2):=H
    have A4:=Aside0.mk A40
    clear A40
    replace H:=Option.bind_eq_some_iff.mp H
    obtain⟨ad,A50,H⟩:=H
    replace H:(if ad≤0 then(tribunalref02_digit.l0 k1 l0 l1 ((((aa+ab)+1)%4294967296)/2) ab) else(tribunalref02_digit.l0 k1 l0 l1 aa ((((((aa+ab)+1)%4294967296)/2)-1)%4294967296)))=some (r1,r2):=H
    have A5:=Aside0.mk A50
    clear A50
    by_cases c6:ad≤0
    ·rw[if_pos c6]at H
     have am:decide (ad≤0)=true:=decide_eq_true c6
     clear c6
     have H':=Aside0.mk H
     clear H
     go_wp2_with (first|((with_reducible refine gate_callee (f:=157) rfl ?_);refine kgl (some 19) rfl rfl Tryz.func157 #[.slice A1 l1.length c1,.int .u32 ((((aa+ab)+1)%4294967296)/2)] rfl ?_;(with_reducible refine(tribunalref02_timesD.calls k1 _ _ l1 ((((aa+ab)+1)%4294967296)/2) ae _ ?side1 ?side2 A4.out).mono ?_);(case side1=>repeat (first|exact(Kd.C_below HR1.out HB.out)|(with_reducible refine Kd.C_alloc ?_ _)|(with_reducible refine Kd.C_drewN ?_ _)|(with_reducible refine Kd.C_drew ?_)));(case side2=>exact HC1.out);rintro e w7 ⟨an,rfl,ho0,hb⟩;refine⟨_,rfl,?_⟩;have ac:=Aside0.mk (Kd.V_lower (Kd.V_mono (ok':=fun k_=>(w.heap.size≤k_)) ho0 (fun k_ hk_=>(Nat.le_trans (below_size (khu HB.out)) hk_))) (below_size (khu HB.out)));replace HB:=kbs HB hb;(try clear hb);(try clear hb2);(try clear hk);(try clear hi);(try clear ho0);obtain⟨Ao8,co8,eo8⟩:=Kd.V_slice ac.out;subst eo8)|((with_reducible refine gate_callee (f:=170) rfl ?_);refine kgl (some 21) rfl rfl Tryz.func170 #[.slice Ao8 ae.length co8,.slice A0 l0.length c0] rfl ?_;(with_reducible refine(tribunalref02_cmpD.calls k1 _ _ ae _ _ l0 ad _ ?side1 ?side2 ?side3 ?side4 A5.out).mono ?_);(case side1=>repeat (first|exact(Kd.V_reads' ac.out).2.2|(with_reducible refine Kd.C_alloc ?_ _)|(with_reducible refine Kd.C_drewN ?_ _)|(with_reducible refine Kd.C_drew ?_)));(case side2=>exact(Kd.V_reads' ac.out).2.1);(case side3=>repeat (first|exact(Kd.C_below HR0.out HB.out)|(with_reducible refine Kd.C_alloc ?_ _)|(with_reducible refine Kd.C_drewN ?_ _)|(with_reducible refine Kd.C_drew ?_)));(case side4=>exact HC0.out);rintro e w' ⟨rfl,⟨nd,rfl⟩⟩;refine⟨_,rfl,?_⟩))
     go_roundg k1
     case measure=>have:=HK1.out;omega
     case rel=>exact⟨((((aa+ab)+1)%4294967296)/2),(ab),Y0,Y0,H',⟨Y3⟩,⟨khu HB.out⟩⟩
    rw[if_neg c6]at H
    have am:decide (ad≤0)=false:=decide_eq_false c6
    clear c6
    have H':=Aside0.mk H
    clear H
    go_wp2_with (first|((with_reducible refine gate_callee (f:=157) rfl ?_);refine kgl (some 19) rfl rfl Tryz.func157 #[.slice A1 l1.length c1,.int .u32 ((((aa+ab)+1)%4294967296)/2)] rfl ?_;(with_reducible refine(tribunalref02_timesD.calls k1 _ _ l1 ((((aa+ab)+1)%4294967296)/2) ae _ ?side1 ?side2 A4.out).mono ?_);(case side1=>repeat (first|exact(Kd.C_below HR1.out HB.out)|(with_reducible refine Kd.C_alloc ?_ _)|(with_reducible refine Kd.C_drewN ?_ _)|(with_reducible refine Kd.C_drew ?_)));(case side2=>exact HC1.out);rintro e w9 ⟨an,rfl,ho0,hb⟩;refine⟨_,rfl,?_⟩;have ac:=Aside0.mk (Kd.V_lower (Kd.V_mono (ok':=fun k_=>(w.heap.size≤k_)) ho0 (fun k_ hk_=>(Nat.le_trans (below_size (khu HB.out)) hk_))) (below_size (khu HB.out)));replace HB:=kbs HB hb;(try clear hb);(try clear hb2);(try clear hk);(try clear hi);(try clear ho0);obtain⟨ao,ap,aq⟩:=Kd.V_slice ac.out;subst aq)|((with_reducible refine gate_callee (f:=170) rfl ?_);refine kgl (some 21) rfl rfl Tryz.func170 #[.slice ao ae.length ap,.slice A0 l0.length c0] rfl ?_;(with_reducible refine(tribunalref02_cmpD.calls k1 _ _ ae _ _ l0 ad _ ?side1 ?side2 ?side3 ?side4 A5.out).mono ?_);(case side1=>repeat (first|exact(Kd.V_reads' ac.out).2.2|(with_reducible refine Kd.C_alloc ?_ _)|(with_reducible refine Kd.C_drewN ?_ _)|(with_reducible refine Kd.C_drew ?_)));(case side2=>exact(Kd.V_reads' ac.out).2.1);(case side3=>repeat (first|exact(Kd.C_below HR0.out HB.out)|(with_reducible refine Kd.C_alloc ?_ _)|(with_reducible refine Kd.C_drewN ?_ _)|(with_reducible refine Kd.C_drew ?_)));(case side4=>exact HC0.out);rintro e w' ⟨rfl,⟨nd,rfl⟩⟩;refine⟨_,rfl,?_⟩))
    go_roundg k1
    case measure=>have:=HK1.out;omega
    case rel=>exact⟨(aa),((((((aa+ab)+1)%4294967296)/2)-1)%4294967296),Y0,Y0,H',⟨Y3⟩,⟨khu HB.out⟩⟩
   rw[if_neg c3]at H
   have al:decide (aa<ab)=false:=decide_eq_false c3
   clear c3
   replace H:=Option.bind_eq_some_iff.mp H
   obtain⟨ag,ai,H⟩:=H
   replace H:((tribunalref02_subD.f k1 l0 ag).bind fun ah=>(some (IntKind.u16.wrap (aa),ah)))=some (r1,r2):=H
   have A11:=Aside0.mk ai
   clear ai
   replace H:=Option.bind_eq_some_iff.mp H
   obtain⟨ah,aj,H⟩:=H
   replace H:(some (IntKind.u16.wrap (aa),ah))=some (r1,r2):=H
   have A12:=Aside0.mk aj
   clear aj
   simp only[Option.some.injEq,Prod.mk.injEq]at H
   obtain⟨rfl,rfl⟩:=H
   go_wp2_with (first|((with_reducible refine gate_callee (f:=157) rfl ?_);refine kgl (some 31) rfl rfl Tryz.func157 #[.slice A1 l1.length c1,.int .u32 aa] rfl ?_;(with_reducible refine(tribunalref02_timesD.calls k1 _ _ l1 aa ag _ ?side1 ?side2 A11.out).mono ?_);(case side1=>repeat (first|exact(Kd.C_below HR1.out HB.out)|(with_reducible refine Kd.C_alloc ?_ _)|(with_reducible refine Kd.C_drewN ?_ _)|(with_reducible refine Kd.C_drew ?_)));(case side2=>exact HC1.out);rintro e w13 ⟨au,rfl,ho0,hb⟩;refine⟨_,rfl,?_⟩;have af:=Aside0.mk (Kd.V_lower (Kd.V_mono (ok':=fun k_=>(w.heap.size≤k_)) ho0 (fun k_ hk_=>(Nat.le_trans (below_size (khu HB.out)) hk_))) (below_size (khu HB.out)));replace HB:=kbs HB hb;(try clear hb);(try clear hb2);(try clear hk);(try clear hi);(try clear ho0);obtain⟨Ao14,co14,ar⟩:=Kd.V_slice af.out;subst ar)|((with_reducible refine gate_callee (f:=171) rfl ?_);refine kgl (some 32) rfl rfl Tryz.func171 #[.slice A0 l0.length c0,.slice Ao14 ag.length co14] rfl ?_;(with_reducible refine(tribunalref02_subD.calls k1 _ _ l0 _ _ ag ah _ ?side1 ?side2 ?side3 ?side4 A12.out).mono ?_);(case side1=>repeat (first|exact(Kd.C_below HR0.out HB.out)|(with_reducible refine Kd.C_alloc ?_ _)|(with_reducible refine Kd.C_drewN ?_ _)|(with_reducible refine Kd.C_drew ?_)));(case side2=>exact HC0.out);(case side3=>repeat (first|exact(Kd.V_reads' af.out).2.2|(with_reducible refine Kd.C_alloc ?_ _)|(with_reducible refine Kd.C_drewN ?_ _)|(with_reducible refine Kd.C_drew ?_)));(case side4=>exact(Kd.V_reads' af.out).2.1);rintro e w15 ⟨av,rfl,ho0,hb⟩;refine⟨_,rfl,?_⟩;replace af:=kvb af hb;have ak:=Aside0.mk (Kd.V_lower (Kd.V_mono (ok':=fun k_=>(w.heap.size≤k_)) ho0 (fun k_ hk_=>(Nat.le_trans (below_size (khu HB.out)) hk_))) (below_size (khu HB.out)));replace HB:=kbs HB hb;(try clear hb);(try clear hb2);(try clear hk);(try clear hi);(try clear ho0)))
   go_ret2
   exact⟨_,B0,kvu ak.out,khu HB.out⟩
def tribunalref02_divD.l0:Nat→List Int→List Int→List Int→List Int→Int→Option (List Int×List Int)
 | 0,_,_,_,_,_=>none
 | k+1,x0,x1,x6,x7,x8=>if x8≥0 then(if 0≤x8 then(if x8<(x0.length:Int) then((some (([rd x0 x8]:List Int):List Int)).bind fun y965=>(if y965.length+x7.length<70368744177664 then((tribunalref02_trim.f k (y965++x7)).bind fun t971=>((tribunalref02_digit.f k t971 x1).bind fun bt974=>(if x8<(x6.length:Int) then(tribunalref02_divD.l0 k x0 x1 (x6.set (x8:Int).toNat bt974.1) bt974.2 (wrap64 (x8-1))) else(none)))) else(none))) else(none)) else(none)) else((tribunalref02_trim.f k x6).bind fun t979=>(some (t979,x7)))
def tribunalref02_divD.f (k:Nat) (l0:List Int) (l1:List Int):Option (List Int×List Int):=if 0≤(l0.length:Int) then(if((l0.length:Int):Int).toNat≤140737488355328 then(tribunalref02_divD.l0 k l0 l1 (List.replicate ((l0.length:Int):Int).toNat 0) ([]:List Int) (wrap64 ((l0.length:Int)-1))) else(none)) else(none)
theorem tribunalref02_divD.calls (k:Nat) (A0:Option Addr) (c0:Nat) (l0:List Int) (A1:Option Addr) (c1:Nat) (l1:List Int) (r1:List Int) (r2:List Int) (w:World) (hr0:Kd.C (Kd.int .u16) w A0 l0.length l0) (hc0:l0.length≤c0) (hr1:Kd.C (Kd.int .u16) w A1 l1.length l1) (hc1:l1.length≤c1) (h:tribunalref02_divD.f k l0 l1=some (r1,r2)) :
  Calls Tryz.prog 169 #[.slice A0 l0.length c0,.slice A1 l1.length c1] w fun e w'=>∃v0_ v1_:Value,e=.returned (.tuple #[v0_,v1_])∧Kd.V (Kd.int .u16) 83 w' w.heap.size (fun k_=>(w.heap.size≤k_)) v0_ r1∧Kd.V (Kd.int .u16) 83 w' w.heap.size (fun k_=>(w.heap.size≤k_)) v1_ r2∧Below w.heap.size w w':=by
 have HR0:=Aside0.mk hr0
 have HC0:=Aside0.mk hc0
 clear hr0 hc0
 have HR1:=Aside0.mk hr1
 have HC1:=Aside0.mk hc1
 clear hr1 hc1
 have HB:=Aside0.mk (Below.refl w.heap.size w)
 have H:(if 0≤(l0.length:Int) then(if((l0.length:Int):Int).toNat≤140737488355328 then(tribunalref02_divD.l0 k l0 l1 (List.replicate ((l0.length:Int):Int).toNat 0) ([]:List Int) (wrap64 ((l0.length:Int)-1))) else(none)) else(none))=some (r1,r2):=h
 clear h
 by_cases c3:0≤(l0.length:Int)
 ·rw [if_pos c3]at H
  have aZ:=eq_true c3
  have bb:decide (0≤(l0.length:Int))=true:=decide_eq_true c3
  clear c3
  by_cases c4:((l0.length:Int):Int).toNat≤140737488355328
  ·rw [if_pos c4]at H
   have bc:=eq_true c4
   have bd:decide (((l0.length:Int):Int).toNat≤140737488355328)=true:=decide_eq_true c4
   clear c4
   obtain⟨aI,al⟩:∃y_:List Int,y_=(List.replicate ((l0.length:Int):Int).toNat 0):=⟨_,rfl⟩
   replace H:(tribunalref02_divD.l0 k l0 l1 aI ([]:List Int) (wrap64 ((l0.length:Int)-1)))=some (r1,r2):=by first|(rw[al];with_reducible exact H)|(have H2_:=(Option.bind_some _ _).symm.trans H;rw[al];with_reducible exact H2_)|(have H2_:=(Option.bind_some _ _).symm.trans H;with_reducible exact H2_)|with_reducible exact H|(rw[al];exact H)|exact H
   have aE:=Aside0.mk al
   clear al
   have H':=Aside0.mk H
   clear H
   go_enter Tryz.func169,Tryz.ntmps169
   go_wp2_with (first|(refine gd 13 rfl ?_;refine Kd.R_make (Kd.int .u16) _ 83 rfl (N:=13) rfl 71 _ _ rfl (l0.length:Int) rfl rfl Tryz.underlying71 (.int .u16 0) 2 info83 rfl J0 Z0 0 (ok:=fun _=>True) (okp:=fun _=>True) rfl (fun _ hk=>hk) trivial (of_decide_eq_true ‹_›) (Nat.le_trans (Nat.mul_le_mul_right _ (of_decide_eq_true ‹_›:(l0.length:Int).toNat≤140737488355328)) Z0) (Below.refl _ _) (Nat.le_refl _) ?_;intro ap w5 ho6 hb hg_ hnew_;clear hg_ hnew_;(first|rw[←aE.out]at ho6|(simp only[Int.reduceToNat]at ho6;rw[←aE.out]at ho6));have aU:=Aside0.mk (Kd.R_lower (Kd.R_newM (M:=fun k_=>(w.heap.size≤k_)) ho6 (below_size (khu HB.out)) (fun k_ h_=>h_)) (below_size (khu HB.out)));replace HB:=kbs HB hb;clear hb ho6))
   go_loopg [7,8] k (fun kq v7 v8 w'=>∃(ab:List Int) (ag:List Int) (aa:Int),v8=.int .i64 aa∧Aside0 (tribunalref02_divD.l0 kq l0 l1 ab ag aa=some (r1,r2))∧Aside0 (kq≤k)∧Aside0 (Kd.R (Kd.int .u16) 83 w' w.heap.size (fun k_=>(w.heap.size≤k_)) ap ab)∧Aside0 (Kd.V (Kd.int .u16) 83 w' w.heap.size (fun k_=>(w.heap.size≤k_)∧some k_≠(ap:Value).ownBlock) v7 ag)∧Aside0 (Below w.heap.size w w'))
   case atStart=>exact⟨(aI),(([]:List Int)),(wrap64 ((l0.length:Int)-1)),Y0,H',⟨Nat.le_refl _⟩,⟨by(with_reducible repeat (first|apply Kd.R_alloc|apply Kd.R_drewN|apply Kd.R_drew));exact Kd.R_mono aU.out (fun _ hk=>hk.1)⟩,⟨Kd.V_nil _ _ _ _ _⟩,⟨khu HB.out⟩⟩
   case round=>
    clear H'
    try clear c1
    try clear p2
    try clear c3
    try clear aZ
    try clear bb
    try clear c4
    try clear bc
    try clear bd
    try clear p6
    obtain⟨ab,ag,aa,rfl,HA,HK1,HO_6,ac,HB⟩:=hrel
    cases gk with
    | zero=>exact absurd HA.out (by simp[tribunalref02_divD.l0])
    | succ k1=>
     have H:=HA.out
     clear HA
     simp only[tribunalref02_divD.l0]at H
     by_cases c7:aa≥0
     ·rw [if_pos c7]at H
      have be:decide (0≤aa)=true:=decide_eq_true c7
      clear c7
      by_cases c8:0≤aa
      ·rw [if_pos c8]at H
       have bu:decide (0≤aa)=true:=decide_eq_true c8
       clear c8
       by_cases c9:aa<(l0.length:Int)
       ·rw[if_pos c9]at H
        have bv:decide (aa<(l0.length:Int))=true:=decide_eq_true c9
        clear c9
        obtain⟨av,am⟩:∃y_:List Int,y_=(([rd l0 aa]:List Int)):=⟨_,rfl⟩
        replace H:(if av.length+ag.length<70368744177664 then((tribunalref02_trim.f k1 (av++ag)).bind fun ai=>((tribunalref02_digit.f k1 ai l1).bind fun af=>(if aa<(ab.length:Int) then(tribunalref02_divD.l0 k1 l0 l1 (ab.set (aa:Int).toNat af.1) af.2 (wrap64 (aa-1))) else(none)))) else(none))=some (r1,r2):=by first|(rw[am];with_reducible exact H)|(have H2_:=(Option.bind_some _ _).symm.trans H;rw[am];with_reducible exact H2_)|(have H2_:=(Option.bind_some _ _).symm.trans H;with_reducible exact H2_)|with_reducible exact H|(rw[am];exact H)|exact H
        have aG:=Aside0.mk am
        clear am
        by_cases c10:av.length+ag.length<70368744177664
        ·rw[if_pos c10]at H
         have aV:=Aside0.mk c10
         clear c10
         obtain⟨aj,an⟩:∃y_:List Int,y_=(av++ag):=⟨_,rfl⟩
         replace H:((tribunalref02_trim.f k1 aj).bind fun ai=>((tribunalref02_digit.f k1 ai l1).bind fun af=>(if aa<(ab.length:Int) then(tribunalref02_divD.l0 k1 l0 l1 (ab.set (aa:Int).toNat af.1) af.2 (wrap64 (aa-1))) else(none))))=some (r1,r2):=by first|(rw[an];with_reducible exact H)|(have H2_:=(Option.bind_some _ _).symm.trans H;rw[an];with_reducible exact H2_)|(have H2_:=(Option.bind_some _ _).symm.trans H;with_reducible exact H2_)|with_reducible exact H|(rw[an];exact H)|exact H
         have aW:=Aside0.mk an
         clear an
         replace H:=Option.bind_eq_some_iff.mp H
         obtain⟨ai,aJ,H⟩:=H
         replace H:((tribunalref02_digit.f k1 ai l1).bind fun af=>(if aa<(ab.length:Int) then(tribunalref02_divD.l0 k1 l0 l1 (ab.set (aa:Int).toNat af.1) af.2 (wrap64 (aa-1))) else(none)))=some (r1,r2):=H
         have A11:=Aside0.mk aJ
         clear aJ
         replace H:=Option.bind_eq_some_iff.mp H
         obtain⟨⟨aw,ax⟩,aK,H⟩:=H
         replace H:(if aa<(ab.length:Int) then(tribunalref02_divD.l0 k1 l0 l1 (ab.set (aa:Int).toNat aw) ax (wrap64 (aa-1))) else(none))=some (r1,r2):=H
         have A12:=Aside0.mk aK
         clear aK
         by_cases c13:aa<(ab.length:Int)
         ·rw[if_pos c13]at H
          have bq:decide (aa<(ab.length:Int))=true:=decide_eq_true c13
          clear c13
          obtain⟨az,ao⟩:∃y_:List Int,y_=(ab.set (aa:Int).toNat aw):=⟨_,rfl⟩
          replace H:(tribunalref02_divD.l0 k1 l0 l1 az ax (wrap64 (aa-1)))=some (r1,r2):=by first|(rw[ao];with_reducible exact H)|(have H2_:=(Option.bind_some _ _).symm.trans H;rw[ao];with_reducible exact H2_)|(have H2_:=(Option.bind_some _ _).symm.trans H;with_reducible exact H2_)|with_reducible exact H|(rw[ao];exact H)|exact H
          have aX:=Aside0.mk ao
          clear ao
          have H':=Aside0.mk H
          clear H
          have aA:0≤(aa:Int):=of_decide_eq_true ‹_›
          have aC:aa<(l0.length:Int):=of_decide_eq_true ‹_›
          obtain⟨br,bf,aq⟩:=Kd.at_int HR0.out aa aA aC
          cases bf
          replace aq:=(HB.out.cell (World.block_lt_of_cell? w _ aq)).trans aq
          replace aA:=eq_true aA
          replace aC:=eq_true aC
          go_wp2_with (first|(refine gd 25 rfl ?_;refine Kd.R_lit (Kd.int .u16) _ 83 ?hg (N:=25) ?hd (xs:=([rd l0 aa]:List Int)) (inner:=[.int .u16 (rd l0 aa)]) (ok:=fun _=>True) (okp:=fun _=>True) ?hr ?hp (fun _ hk=>hk) trivial (Below.refl _ _) (Nat.le_refl _) Z1 ?_;(case hd=>rfl);(case hg=>rfl);(case hr=>first|(go_simp;done)|(go_simp;rfl));(case hp=>exact(Reps.one (show Kd.M (Kd.int .u16) _ _ _ (rd l0 aa) [.int .u16 (rd l0 aa)] from rfl) (Reps.none _ _)));intro bg w15 ak hb hg_ hnew_;clear hg_ hnew_;(first|rw[←aG.out]at ak|(simp only[Int.reduceToNat]at ak;rw[←aG.out]at ak));replace ac:=Aside0.mk (Kd.V_elder' (kvu ac.out) (Kd.R_base ak) hb);have aH:=Aside0.mk (Kd.R_lower (Kd.R_new' (Kd.R_newM (M:=fun k_=>(w.heap.size≤k_)) ak (below_size (khu HB.out)) (fun k_ h_=>h_)) (Kd.R_lt (kru HO_6.out))) (below_size (khu HB.out)));replace HO_6:=Aside0.mk (Kd.R_elder' (kru HO_6.out) (Kd.R_base ak) hb);replace HB:=kbs HB hb;clear hb ak;obtain⟨bw,bx,bh⟩:=Kd.V_slice ac.out;subst bh)|((with_reducible refine gate_builtin (b:=.append) (xs:=#[.tmp 25,.tmp 26]) rfl ?_);at_builtin;refine Kd.R_append_rows (Kd.int .u16) (w0:=w) w.heap.size rfl (.tmp 25) (.tmp 26) 71 83 (.int .u16 0) 2 rfl Tryz.underlying71 info83 rfl J0 Z0 bg av ag _ _ _ (fun k_=>(w.heap.size≤k_)∧some k_≠(ap:Value).ownBlock) (fun _=>False) rfl rfl ?aO ?aR (fun _ _ h=>h) (fun _ h=>h.elim) ?aF ?aB ?aS ?aL ?_;(case aR=>repeat (first|exact(Kd.V_reads' ac.out).2.2|(with_reducible refine Kd.C_alloc ?_ _)|(with_reducible refine Kd.C_drewN ?_ _)|(with_reducible refine Kd.C_drew ?_)));(case aB=>exact(khu HB.out));(case aF=>exact(fun k_ hk=>⟨(Nat.le_trans (below_size (khu HB.out)) hk),Kd.fresh' (Kd.R_lt (kru HO_6.out)) k_ hk⟩));(case aO=>exact(by(with_reducible repeat (first|apply Kd.R_alloc|apply Kd.R_drewN|apply Kd.R_drew));exact Kd.R_mono aH.out (fun _ hk=>⟨hk.1.1,hk.2⟩)));(case aS=>exact(below_size (khu HB.out)));(case aL=>have:=aV.out;omega);intro bz w17 ho hb hg hat;rw[←aW.out]at ho;replace HO_6:=Aside0.mk (Kd.R_after (ok:=(fun k_=>(w.heap.size≤k_))) (kru HO_6.out) hg hat);replace ac:=Aside0.mk (Kd.V_afterv (ok:=(fun k_=>(w.heap.size≤k_)∧some k_≠(ap:Value).ownBlock)) (kvu ac.out) hg hat);replace HB:=Aside0.mk (hb);have ad:=Aside0.mk (ho);clear aH;clear ho hb hg hat;obtain⟨ar,au,bi⟩:=Kd.R_slice ad.out;subst bi)|((with_reducible refine gate_callee (f:=158) rfl ?_);refine kgl (some 28) rfl rfl Tryz.func158 #[.slice ar aj.length au] rfl ?_;(with_reducible refine(tribunalref02_trim.calls k1 (fun k_=>some k_=(.slice ar aj.length au:Value).ownBlock) _ _ aj ai _ ?side1 A11.out).mono ?_);(case side1=>exact Kd.R_V (Kd.R_tight rfl (ad.out)));rintro e w20 ⟨bA,rfl,ho0,hb⟩;refine⟨_,rfl,?_⟩;replace ac:=kvb ac hb;have ah:=Aside0.mk (Kd.V_lower (Kd.V_mono (ok':=fun k_=>(w.heap.size≤k_)∧some k_≠(ap:Value).ownBlock) ho0 (fun k_ hk_=>⟨Or.elim hk_ (fun hs_=>((ad.out).1 k_ hs_.symm).1) (fun hn_=>(Nat.le_trans (below_size (khu HB.out)) hn_)),Or.elim hk_ (fun hs_=>((ad.out).1 k_ hs_.symm).2) (fun hn_=>(Kd.fresh' (Kd.R_lt (kru HO_6.out)) k_ hn_))⟩)) (below_size (khu HB.out)));replace HO_6:=krb HO_6 hb;replace ad:=krb ad hb;replace HB:=kbs HB hb;(try clear hb);(try clear hb2);(try clear hk);(try clear hi);(try clear ho0);obtain⟨Ao21,co21,bj⟩:=Kd.V_slice ah.out;subst bj)|((with_reducible refine gate_callee (f:=225) rfl ?_);refine kgl (some 32) rfl rfl Tryz.func225 #[.slice Ao21 ai.length co21,.slice A1 l1.length c1] rfl ?_;(with_reducible refine(tribunalref02_digit.calls k1 _ _ ai _ _ l1 aw ax _ ?side1 ?side2 ?side3 ?side4 A12.out).mono ?_);(case side1=>repeat (first|exact(Kd.V_reads' ah.out).2.2|(with_reducible refine Kd.C_alloc ?_ _)|(with_reducible refine Kd.C_drewN ?_ _)|(with_reducible refine Kd.C_drew ?_)));(case side2=>exact(Kd.V_reads' ah.out).2.1);(case side3=>repeat (first|exact(Kd.C_below HR1.out HB.out)|(with_reducible refine Kd.C_alloc ?_ _)|(with_reducible refine Kd.C_drewN ?_ _)|(with_reducible refine Kd.C_drew ?_)));(case side4=>exact HC1.out);rintro e w22 ⟨bB,rfl,ho0,hb⟩;refine⟨_,rfl,?_⟩;replace ac:=kvb ac hb;replace ah:=kvb ah hb;have ay:=Aside0.mk (Kd.V_lower (Kd.V_mono (ok':=fun k_=>(w.heap.size≤k_)∧some k_≠(ap:Value).ownBlock∧some k_≠(.slice ar aj.length au:Value).ownBlock) ho0 (fun k_ hk_=>⟨(Nat.le_trans (below_size (khu HB.out)) hk_),(Kd.fresh' (Kd.R_lt (kru HO_6.out)) k_ hk_),(Kd.fresh' (Kd.R_lt (kru ad.out)) k_ hk_)⟩)) (below_size (khu HB.out)));replace HO_6:=krb HO_6 hb;replace ad:=krb ad hb;replace HB:=kbs HB hb;(try clear hb);(try clear hb2);(try clear hk);(try clear hi);(try clear ho0);have p14:0≤(aa:Int):=of_decide_eq_true ‹_›;have q14:(aa:Int)<((ab.length:Int):Int):=of_decide_eq_true ‹_›;obtain⟨ae,co14,aM,aN,bk,bC,aP⟩:=Kd.R_form HO_6.out Z0;(first|cases aM|(injection aM with ea_ en_ ec_;(first|subst ea_|(injection ea_ with ea_;subst ea_));subst ec_;clear en_));have bl:=Aside0.mk aN;have bD:=Aside0.mk aP;clear aN bk aP;obtain⟨bo,bp⟩:=Kd.R_celln 0 HO_6.out (aa:Int) p14 q14;replace p14:=eq_true p14;replace q14:=eq_true q14;obtain⟨hy23_,hz23_⟩:=Kd.R_celln 0 HO_6.out (aa:Int) (of_decide_eq_true ‹_›) (of_decide_eq_true ‹_›);have aD:=Kd.R_putg HO_6.out (aa:Int) aw)|((with_reducible refine gate_store (t:=83) (p:=38) rfl ?_);refine store_event (t:=83) (p:=38) (v:=?vo_w24) (w1:=(w22.setCell ⟨ae,(aa:Int).toNat,none⟩ (.int .u16 aw))) ?hg ?ho ?hn ?hr ?_;(case ho=>rfl);(case hg=>rfl);(case hn=>rfl);(case hr=>first|(go_simp;done)|(go_simp;rfl));intro w24 hw;have hg:w22.grownBy w24 (some ae):=(by rw[hw];exact aD.2);have hp_:Kd.R (Kd.int .u16) 83 w24 w.heap.size (fun k_=>(w.heap.size≤k_)∧some k_≠(.slice ar aj.length au:Value).ownBlock) (.slice (some ⟨ae,0,none⟩) ab.length co14) az:=(by rw[hw,aX.out];exact aD.1);clear aD;replace HO_6:=Aside0.mk (hp_);replace ac:=Aside0.mk (Kd.V_afterv (v:=(.slice (some ⟨ae,0,none⟩) ab.length co14)) (v1:=(.slice (some ⟨ae,0,none⟩) ab.length co14)) (ok:=(fun k_=>(w.heap.size≤k_)∧some k_≠(.slice ar aj.length au:Value).ownBlock)) (by(with_reducible repeat (first|apply Kd.V_alloc|apply Kd.V_drewN|apply Kd.V_drew));exact Kd.V_mono ac.out (fun _ hk=>⟨⟨hk.1.1,hk.2⟩,hk.1.2⟩)) hg (.inl rfl));replace ad:=Aside0.mk (Kd.R_after (v:=(.slice (some ⟨ae,0,none⟩) ab.length co14)) (v1:=(.slice (some ⟨ae,0,none⟩) ab.length co14)) (ok:=(fun k_=>(w.heap.size≤k_))) (kru ad.out) hg (.inl rfl));replace ah:=Aside0.mk (Kd.V_afterv (v:=(.slice (some ⟨ae,0,none⟩) ab.length co14)) (v1:=(.slice (some ⟨ae,0,none⟩) ab.length co14)) (ok:=(fun k_=>(w.heap.size≤k_))) (kvu ah.out) hg (.inl rfl));replace ay:=Aside0.mk (Kd.V_afterv (v:=(.slice (some ⟨ae,0,none⟩) ab.length co14)) (v1:=(.slice (some ⟨ae,0,none⟩) ab.length co14)) (ok:=(fun k_=>(w.heap.size≤k_)∧some k_≠(.slice ar aj.length au:Value).ownBlock)) (by(with_reducible repeat (first|apply Kd.V_alloc|apply Kd.V_drewN|apply Kd.V_drew));exact Kd.V_mono ay.out (fun _ hk=>⟨⟨hk.1,hk.2.2⟩,hk.2.1⟩)) hg (.inl rfl));replace HB:=Aside0.mk ((by rw[hw];exact below_set (HB.out) bl.out:Below w.heap.size w w24));clear hg hw hp_))
          go_roundg k1
          case measure=>have:=HK1.out;omega
          case rel=>exact⟨(az),(ax),(wrap64 (aa-1)),Y0,H',⟨Y3⟩,⟨by(with_reducible repeat (first|apply Kd.R_alloc|apply Kd.R_drewN|apply Kd.R_drew));exact Kd.R_mono HO_6.out (fun _ hk=>hk.1)⟩,⟨by(with_reducible repeat (first|apply Kd.V_alloc|apply Kd.V_drewN|apply Kd.V_drew));exact Kd.V_mono ay.out (fun _ hk=>⟨hk.1.1,hk.2⟩)⟩,⟨khu HB.out⟩⟩
         rw[if_neg c13]at H
         exact absurd H Z1
        rw[if_neg c10]at H
        exact absurd H Z1
       rw[if_neg c9]at H
       exact absurd H Z1
      rw[if_neg c8]at H
      exact absurd H Z1
     rw[if_neg c7]at H
     have be:decide (0≤aa)=false:=decide_eq_false c7
     clear c7
     replace H:=Option.bind_eq_some_iff.mp H
     obtain⟨aQ,aT,H⟩:=H
     replace H:(some (aQ,ag))=some (r1,r2):=H
     have A25:=Aside0.mk aT
     clear aT
     simp only[Option.some.injEq,Prod.mk.injEq]at H
     obtain⟨rfl,rfl⟩:=H
     obtain⟨Ao26,co26,bn⟩:=Kd.R_slice HO_6.out
     subst bn
     go_wp2_with (first|((with_reducible refine gate_callee (f:=158) rfl ?_);refine kgl (some 41) rfl rfl Tryz.func158 #[.slice Ao26 ab.length co26] rfl ?_;(with_reducible refine(tribunalref02_trim.calls k1 (fun k_=>some k_=(.slice Ao26 ab.length co26:Value).ownBlock) _ _ ab aQ _ ?side1 A25.out).mono ?_);(case side1=>exact Kd.R_V (Kd.R_tight rfl (HO_6.out)));rintro e w27 ⟨bE,rfl,ho0,hb⟩;refine⟨_,rfl,?_⟩;replace ac:=kvb ac hb;have aY:=Aside0.mk (Kd.V_lower (Kd.V_mono (ok':=fun k_=>(w.heap.size≤k_)) ho0 (fun k_ hk_=>Or.elim hk_ (fun hs_=>((HO_6.out).1 k_ hs_.symm)) (fun hn_=>(Nat.le_trans (below_size (khu HB.out)) hn_)))) (below_size (khu HB.out)));replace HO_6:=krb HO_6 hb;replace HB:=kbs HB hb;(try clear hb);(try clear hb2);(try clear hk);(try clear hi);(try clear ho0)))
     go_ret2
     exact⟨_,_,B0,kvu aY.out,by(with_reducible repeat (first|apply Kd.V_alloc|apply Kd.V_drewN|apply Kd.V_drew));exact Kd.V_mono ac.out (fun _ hk=>hk.1),khu HB.out⟩
  rw[if_neg c4]at H
  exact absurd H Z1
 rw[if_neg c3]at H
 exact absurd H Z1
def tribunalref02_Cut.f (k:Nat) (a0_0:Bool) (l0_1:List Int) (a1_0:Bool) (l1_1:List Int):Option (Bool×List Int×Bool×List Int):=(tribunalref02_divD.f k l0_1 l1_1).bind fun bt986=>((tribunalref02_Make.f k (a0_0 != a1_0) bt986.1).bind fun bt992=>((tribunalref02_Make.f k a0_0 bt986.2).bind fun bt996=>(some (bt992.1,bt992.2,bt996.1,bt996.2))))
def tribunalref02_Cut.T2:Bool×List (List Nat×List Nat):=(true,[([],[]),([0],[0]),([],[]),([2],[2]),([1,3],[1,3]),([],[]),([4,5],[4,5]),([],[]),([7],[7]),([],[]),([8,9,6],[8,9]),([6,10,0,1,2,3,4,5,6],[6]),([10,11,0,1,2,3,4,5,6,7,8,9,10,11],[10])])
def tribunalref02_Cut.B2:List Nat:=[0,1,0,4,15,0,63,0,128,0,1023,2047,4095]
theorem tribunalref02_Cut.tab2:rtab .any (opsOf Tryz.f100 2)=tribunalref02_Cut.T2:=by kernel_rfl
theorem tribunalref02_Cut.bits2:waitsOk tribunalref02_Cut.T2.2 tribunalref02_Cut.B2=true:=by kernel_rfl
theorem tribunalref02_Cut.calls (k:Nat) (ac:Bool) (ae:Option Addr) (af:Nat) (aa:List Int) (ad:Bool) (ag:Option Addr) (ah:Nat) (ab:List Int) (r1:Bool) (r2:List Int) (r3:Bool) (r4:List Int) (w:World) (ai:Kd.C (Kd.int .u16) w ae aa.length aa) (aj:aa.length≤af) (ak:Kd.C (Kd.int .u16) w ag ab.length ab) (al:ab.length≤ah) (h:tribunalref02_Cut.f k ac aa ad ab=some (r1,r2,r3,r4)) :
  Calls Tryz.prog 100 #[.agg #[.bool ac,.slice ae aa.length af],.agg #[.bool ad,.slice ag ab.length ah]] w fun e w'=>∃v1_ v3_:Value,e=.returned (.tuple #[.agg #[.bool r1,v1_],.agg #[.bool r3,v3_]])∧Kd.V (Kd.int .u16) 83 w' w.heap.size (fun k_=>(w.heap.size≤k_)) v1_ r2∧Kd.V (Kd.int .u16) 83 w' w.heap.size (fun k_=>(w.heap.size≤k_)) v3_ r4∧Below w.heap.size w w':=by
 have aq:=Tryz.underlying73
 have K:=Kp.refl w
 replace K:=K.parV (Kd.V_mono (ok':=fun k=>k<w.heap.size) (Kd.V_mk (e:=83) (base:=0) aj (Kd.C_F (Kd.heap_int .u16) ai)) (fun _ h=>h))
 clear ai aj
 replace K:=K.parV (Kd.V_mono (ok':=fun k=>k<w.heap.size) (Kd.V_mk (e:=83) (base:=0) al (Kd.C_F (Kd.heap_int .u16) ak)) (fun _ h=>h))
 clear ak al
 try simp only[klv]at K
 rw[tribunalref02_Cut.f]at h
 replace h:=bindA h
 obtain⟨⟨x9,x10⟩,A11,h⟩:=h
 dsimp only at h
 go_enter Tryz.func100,Tryz.ntmps100
 go_wp2_with (first|(refine gd 2 rfl ?_;refine kbk 2 #[.bool ac,.slice ae aa.length af] 73 K.u ?_;clear K;intro g1 W2 K)|(refine gd 3 rfl ?_;refine kbk 3 #[.bool ad,.slice ag ab.length ah] 73 K.u ?_;clear K;intro g3 W4 K)|(refine gd 4 rfl ?_;refine kbk 4 #[.bool false,.slice none 0 0] 73 K.u ?_;clear K;intro g5 W6 K)|(refine gd 5 rfl ?_;refine kbk 5 #[.bool false,.slice none 0 0] 73 K.u ?_;clear K;intro g7 W8 K;obtain⟨ua0,ub0⟩:=K.cell2 0 rfl;obtain⟨ua1,ub1⟩:=K.cell2 1 rfl)|(refine gd 13 rfl ?_;clear ua0 ub0 ua1 ub1;refine kgl (some 13) rfl rfl Tryz.func169 #[.slice ae aa.length af,.slice ag ab.length ah] rfl ?_;refine(tribunalref02_divD.calls _ _ _ aa _ _ ab x9 x10 _ (K.C 0 rfl) (K.le 0 rfl) (K.C 1 rfl) (K.le 1 rfl) A11.out).mono ?_;rintro e W16 ⟨v12,v13,rfl,am,an,hb⟩;refine⟨_,rfl,?_⟩;have K1:=K.u.addF (fun _=>False) hb am;replace K:=K.u.moreF (fun _=>False) K1 an;clear K1;clear hb am an;obtain⟨P17,c18,e19⟩:=K.slice 2 rfl;subst e19;obtain⟨P20,c21,e22⟩:=K.slice 3 rfl;subst e22))
 replace h:=bindA h
 obtain⟨⟨z23,x24⟩,A25,h⟩:=h
 dsimp only at h
 replace h:=bindA h
 obtain⟨⟨z26,x27⟩,A28,h⟩:=h
 dsimp only at h
 obtain⟨Bs,Vs,Os,hBs,hVs,hOs,K⟩:=K.abs
 have HS:Aside0 (∀l m o W,Kp w (Bs++l) m o W→W.cell? ⟨g1,0,none⟩=some (.bool ac)∧W.cell? ⟨g1,1,none⟩=some (.slice ae aa.length af)∧W.cell? ⟨g3,0,none⟩=some (.bool ad)∧W.cell? ⟨g3,1,none⟩=some (.slice ag ab.length ah)):=⟨fun l m o W K=>by rw[hBs.out]at K;exact⟨K.cell 0 rfl 0 rfl,K.cell 0 rfl 1 rfl,K.cell 1 rfl 0 rfl,K.cell 1 rfl 1 rfl⟩⟩
 refine kpstart (n:=13) (ds:=[]) (S:=fun W=>W.cell? ⟨g1,0,none⟩=some (.bool ac)∧W.cell? ⟨g1,1,none⟩=some (.slice ae aa.length af)∧W.cell? ⟨g3,0,none⟩=some (.bool ad)∧W.cell? ⟨g3,1,none⟩=some (.slice ag ab.length ah)) (bm_ 13 0) X0 rfl rfl K (HS.out [] _ _) (fun W31 K hH=>?_)
 refine with_tabW tribunalref02_Cut.tab2 tribunalref02_Cut.bits2 (fun HT_ HW_=>?_)
 refine pu_ 0 16 ?_ (bm_ 13 1) rfl rfl (any_of HT_.out X0) (fun _ _ _ h=>h) F1 ?_ ?_ ?_ ?_
 rotate_left
 ·intro w'
  go_simp
  with_reducible rfl
 rotate_left
 ·simp only[Act.put,kss,i64_w,i32_w]
  rfl
 refine tk_ 1 17 ?_ (bm_ 13 3) rfl rfl (take_ofW HT_.out HW_.out X0) (fun _ _ _ h=>h) F1 ?_ hH ?_ ?_ ?_
 rotate_left
 ·rintro w' ⟨s0,s1,s2,s3⟩
  go_simp
  with_reducible rfl
 rotate_left
 ·simp only[Act.put,kss,i64_w,i32_w]
  rfl
 refine pu_ 2 18 ?_ (bm_ 13 7) rfl rfl (any_of HT_.out X0) (fun _ _ _ h=>h) F1 ?_ ?_ ?_ ?_
 rotate_left
 ·intro w'
  go_simp
  with_reducible rfl
 rotate_left
 ·simp only[Act.put,kss,i64_w,i32_w]
  rfl
 refine tk_ 3 19 ?_ (bm_ 13 15) rfl rfl (take_ofW HT_.out HW_.out X0) (fun _ _ _ h=>h) F1 ?_ hH ?_ ?_ ?_
 rotate_left
 ·rintro w' ⟨s0,s1,s2,s3⟩
  go_simp
  with_reducible rfl
 rotate_left
 ·simp only[Act.put,kss,i64_w,i32_w]
  rfl
 refine pu_ 4 20 ?_ (bm_ 13 31) rfl rfl (any_of HT_.out X0) (fun _ _ _ h=>h) F1 ?_ ?_ ?_ ?_
 rotate_left
 ·intro w'
  go_simp
  with_reducible rfl
 rotate_left
 ·simp only[Act.put,kss,i64_w,i32_w]
  rfl
 refine pu_ 5 21 ?_ (bm_ 13 63) rfl rfl (any_of HT_.out X0) (fun _ _ _ h=>h) F1 ?_ ?_ ?_ ?_
 rotate_left
 ·intro w'
  go_simp
  with_reducible rfl
 rotate_left
 ·simp only[Act.put,kss,i64_w,i32_w]
  rfl
 refine pu_ 7 23 ?_ (bm_ 13 191) rfl rfl (any_of HT_.out X0) (fun _ _ _ h=>h) F1 ?_ ?_ ?_ ?_
 rotate_left
 ·intro w'
  go_simp
  with_reducible rfl
 rotate_left
 ·simp only[Act.put,kss,i64_w,i32_w]
  rfl
 refine tk_ 8 24 ?_ (bm_ 13 447) rfl rfl (take_ofW HT_.out HW_.out X0) (fun _ _ _ h=>h) F1 ?_ hH ?_ ?_ ?_
 rotate_left
 ·rintro w' ⟨s0,s1,s2,s3⟩
  go_simp
  with_reducible rfl
 rotate_left
 ·simp only[Act.put,kss,i64_w,i32_w]
  rfl
 refine pu_ 9 25 ?_ (bm_ 13 959) rfl rfl (any_of HT_.out X0) (fun _ _ _ h=>h) F1 ?_ ?_ ?_ ?_
 rotate_left
 ·intro w'
  go_simp
  with_reducible rfl
 rotate_left
 ·simp only[Act.put,kss,i64_w,i32_w]
  rfl
 refine one_ (i:=6) (N:=some 22) (bm_ 13 1023) rfl rfl (one_of HT_.out X0) J0 (fun Kc hK=>?_)
 refine kgo Tryz.func84 #[.bool (ac != ad),.slice P17 x9.length c18] F1 rfl rfl ?_
 refine(tribunalref02_Make.calls _ (ac != ad) _ _ _ x9 z23 x24 _ (K.V 2 (hv hVs rfl)) A25.out).mono ?_
 rintro e W' ⟨v29,rfl,ao,hb⟩
 replace K:=K.addI 0 (fun _=>False) hb ao (fun _ h=>h)
 clear hb ao
 refine⟨_,rfl,hK.out _ _ (HS.out _ _ _ _ K) fun hH=>?_⟩
 clear hK Kc
 refine norm_ (a':=?_) ?_ ?_
 rotate_left
 ·show Act.put _ (some 22) _=_
  simp only[Act.put,kss,i64_w,i32_w]
  rfl
 refine one_ (i:=10) (N:=some 26) (bm_ 13 2047) rfl rfl (one_of HT_.out X0) J0 (fun Kc hK=>?_)
 refine kgo Tryz.func84 #[.bool ac,.slice P20 x10.length c21] F1 rfl rfl ?_
 refine(tribunalref02_Make.calls _ ac _ _ _ x10 z26 x27 _ (K.V 3 (hv hVs rfl)) A28.out).mono ?_
 rintro e W' ⟨v30,rfl,ap,hb⟩
 replace K:=K.addI 1 (fun _=>False) hb ap (fun _ h=>h)
 clear hb ap
 refine⟨_,rfl,hK.out _ _ (HS.out _ _ _ _ K) fun hH=>?_⟩
 clear hK Kc
 refine norm_ (a':=?_) ?_ ?_
 rotate_left
 ·show Act.put _ (some 26) _=_
  simp only[Act.put,kss,i64_w,i32_w]
  rfl
 obtain⟨P34,c35,e36⟩:=K.slice 4 (hv hVs rfl)
 subst e36
 obtain⟨P37,c38,e39⟩:=K.slice 5 (hv hVs rfl)
 subst e39
 rw[hBs.out,hVs.out,hOs.out]at K
 simp only[kls,klv]at K
 clear hBs hVs hOs HS hH
 refine ko2 (i:=11) (bm_ 13 4095) 2 (.bool z23) (.slice P34 x24.length c35) K rfl rfl rfl (one_of HT_.out X0) J0 F1 (fun W K=>⟨K.cell 0 rfl 0 rfl,K.cell 0 rfl 1 rfl,K.cell 1 rfl 0 rfl,K.cell 1 rfl 1 rfl⟩) ?_
 clear K
 intro W40 K
 simp only[kls,klv]at K
 refine ko2 (i:=12) (bm_ 13 8191) 3 (.bool z26) (.slice P37 x27.length c38) K rfl rfl rfl (one_of HT_.out X0) J0 F1 (fun W K=>⟨K.cell 0 rfl 0 rfl,K.cell 0 rfl 1 rfl,K.cell 1 rfl 0 rfl,K.cell 1 rfl 1 rfl⟩) ?_
 clear K
 intro W41 K
 simp only[kls,klv]at K
 refine done_ (done_of HT_.out X0) ?_
 clear HT_ HW_
 simp only[Option.some.injEq,Prod.mk.injEq]at h
 obtain⟨rfl,rfl,rfl,rfl⟩:=h
 go_wp2
 refine bodyPost_ret (results_list (rs:=[.cell 4 73,.cell 5 73]) rfl Z1 (.cell g5 73 #[.bool z23,.slice P34 x24.length c35] (0,0) _ rfl (K.u.heap 2 rfl) Tryz.underlying73 rfl X0 (.cell g7 73 #[.bool z26,.slice P37 x27.length c38] (0,0) _ rfl (K.u.heap 3 rfl) Tryz.underlying73 rfl X0 .nil))) rfl ?_
 exact⟨_,_,rfl,K.u.hand 4 rfl (fun _ h=>h.elim (fun h=>h.elim) id),K.u.hand 5 rfl (fun _ h=>h.elim (fun h=>h.elim) id),K.u.below⟩
def tribunalref03_gcd.l0:Nat→Bool→List Int→Bool→List Int→Option (Bool×List Int)
 | 0,_,_,_,_=>none
 | k+1,x1001000,x1001001,x1002000,x1002001=>if(x1002001.length:Int)>0 then((tribunalref02_Cut.f k x1001000 x1001001 x1002000 x1002001).bind fun bt1003=>((tribunalref02_Make.f k false bt1003.2.2.2).bind fun bt1013=>(tribunalref03_gcd.l0 k x1002000 x1002001 bt1013.1 bt1013.2))) else((tribunalref02_Make.f k false x1001001).bind fun bt1017=>(some (bt1017.1,bt1017.2)))
def tribunalref03_gcd.f (k:Nat) (a0_0:Bool) (l0_1:List Int) (a1_0:Bool) (l1_1:List Int):Option (Bool×List Int):=tribunalref03_gcd.l0 k a0_0 l0_1 a1_0 l1_1
def KV.cls (P:Nat→Prop) (v:KV):KV:=⟨v.kd,v.e,v.v,v.xs,P⟩
def okAll (vs:List KV) (m:Nat) (P:Nat→Prop):List Nat→Prop
 | []=>True
 | i::is=>(∃v,vs[i]? = some v∧∀k,v.ok k∨m≤k→P k)∧okAll vs m P is
theorem okAll.at {vs:List KV} {m:Nat} {P:Nat→Prop}:∀ {is:List Nat},okAll vs m P is→∀i∈is,∀v,vs[i]? = some v→∀k,v.ok k∨m≤k→P k
 | j::is,⟨⟨v0,e0,h0⟩,h⟩,i,hi,v,hv=>by
  rcases List.mem_cons.1 hi with rfl|hi
  ·rw[e0]at hv;cases hv;exact h0
  exact okAll.at h i hi v hv
theorem carryP {w W:World} {bs:List Bx} {vs os:List KV} (K:Kp w bs vs os W) (n:Nat) (P:Nat→Prop) (is:List Nat) (h:okAll vs w.heap.size P is):Kp w bs (vs.take n++is.filterMap fun i=>(vs[i]?).map (KV.cls P)) os W:=
 ⟨K.below,K.blk,K.nod,fun v hv=>by
  rcases List.mem_append.1 hv with hv|hv
  ·exact K.val v (List.mem_of_mem_take hv)
  obtain⟨i,hi,hv⟩:=List.mem_filterMap.1 hv
  obtain⟨v0,h0,rfl⟩:=Option.map_eq_some_iff.1 hv
  exact Kd.V_mono (K.val v0 (List.mem_of_getElem? h0)) fun k hk=>⟨.inl (okAll.at h i hi v0 h0 k hk.1),hk.2⟩,K.own,K.sep⟩
theorem tribunalref03_gcd.calls (k:Nat) (ac:Bool) (P0_1_:Nat→Prop) (ad:Option Addr) (ae:Nat) (aa:List Int) (af:Bool) (P1_1_:Nat→Prop) (ag:Option Addr) (ah:Nat) (ab:List Int) (r1:Bool) (r2:List Int) (w:World) (ai:Kd.V (Kd.int .u16) 83 w w.heap.size (fun k_=>P0_1_ k_) (.slice ad aa.length ae) aa) (aj:Kd.V (Kd.int .u16) 83 w w.heap.size (fun k_=>P1_1_ k_) (.slice ag ab.length ah) ab) (h:tribunalref03_gcd.f k ac aa af ab=some (r1,r2)) :
  Calls Tryz.prog 61 #[.agg #[.bool ac,.slice ad aa.length ae],.agg #[.bool af,.slice ag ab.length ah]] w fun e w'=>∃v1_:Value,e=.returned (.agg #[.bool r1,v1_])∧Kd.V (Kd.int .u16) 83 w' w.heap.size (fun k_=>((P0_1_ k_∨P1_1_ k_)∨w.heap.size≤k_)) v1_ r2∧Below w.heap.size w w':=by
 have aq:=Tryz.underlying73
 have K:=Kp.refl w
 replace K:=K.parV (Kd.V_mono (ok':=fun k=>P0_1_ k) ai (fun _ h=>h))
 clear ai
 replace K:=K.parV (Kd.V_mono (ok':=fun k=>P1_1_ k) aj (fun _ h=>h))
 clear aj
 try simp only[klv]at K
 rw[tribunalref03_gcd.f]at h
 go_enter Tryz.func61,Tryz.ntmps61
 go_wp2_with (first|(refine gd 2 rfl ?_;refine kbk 2 #[.bool ac,.slice ad aa.length ae] 73 K.u ?_;clear K;intro g1 W2 K)|(refine gd 3 rfl ?_;refine kbk 3 #[.bool af,.slice ag ab.length ah] 73 K.u ?_;clear K;intro g3 W4 K)|(refine gd 4 rfl ?_;refine kbk 4 #[.bool false,.slice none 0 0] 73 K.u ?_;clear K;intro g5 W6 K))
 try go_wp2
 refine normC (a':=?_) ?_ ?_
 rotate_left
 ·try simp only[Act.put,kss]
  rfl
 obtain⟨Vl,Ol,hVl,hOl⟩:=K.names
 have HK0:=Aside0.mk (carryP (K) 2 (fun k=>(P0_1_ k∨P1_1_ k)∨w.heap.size≤k) [0,1] ⟨⟨_,rfl,fun k h=>by first|exact h.elim id .inr|exact h.elim (fun h=>.inl (.inl h)) .inr|exact h.elim (fun h=>.inl (.inr h)) .inr|exact h.elim False.elim .inr|exact h.elim (fun h=>.inl h) .inr⟩,⟨_,rfl,fun k h=>by first|exact h.elim id .inr|exact h.elim (fun h=>.inl (.inl h)) .inr|exact h.elim (fun h=>.inl (.inr h)) .inr|exact h.elim False.elim .inr|exact h.elim (fun h=>.inl h) .inr⟩,trivial⟩)
 clear K
 replace h:=Aside0.mk h
 go_loopg [] k (fun ak w'=>∃(z7:Bool) (y8:List Int) (z10:Bool) (y11:List Int) (u9 u12:Value),Aside0 (tribunalref03_gcd.l0 ak z7 y8 z10 y11=some (r1,r2))∧Aside0 (ak≤k)∧Aside0 (Kp w [(g1,#[.bool z7,u9],73),(g3,#[.bool z10,u12],73),(g5,#[.bool false,.slice none 0 0],73)] (Vl++[⟨Kd.int .u16,83,u9,y8,fun k=>(P0_1_ k∨P1_1_ k)∨w.heap.size≤k⟩,⟨Kd.int .u16,83,u12,y11,fun k=>(P0_1_ k∨P1_1_ k)∨w.heap.size≤k⟩]) Ol w'))
 case atStart=>exact⟨_,_,_,_,_,_,h,⟨Nat.le_refl _⟩,⟨HK0.out.reV hVl hOl rfl⟩⟩
 case round=>
  obtain⟨z7,y8,z10,y11,u9,u12,HA,HK1,HK⟩:=hrel
  clear h HK0
  have h:=HA.out
  have K:=HK.out
  clear HA HK
  rw[hVl.out,hOl.out]at K
  simp only[klv]at K
  cases gk with
  | zero=>exact absurd h (by simp[tribunalref03_gcd.l0])
  | succ k1=>
   rw[tribunalref03_gcd.l0]at h
   obtain⟨P14,c15,e16⟩:=K.slice 2 rfl
   subst e16
   obtain⟨P17,c18,e19⟩:=K.slice 3 rfl
   subst e19
   by_cases c_0:(y11.length:Int)>0
   ·rw[if_pos c_0]at h
    have ap:decide ((y11.length:Int)>0)=true:=decide_eq_true c_0
    replace h:=bindA h
    obtain⟨⟨z20,x21,z22,x23⟩,A24,h⟩:=h
    dsimp only at h
    obtain⟨ua1,ub1⟩:=K.cell2 1 rfl
    obtain⟨ua0,ub0⟩:=K.cell2 0 rfl
    go_wp2_with (first|(refine gd 14 rfl ?_;clear ua1 ub1 ua0 ub0;refine kgl (some 14) rfl rfl Tryz.func100 #[.agg #[.bool z7,.slice P14 y8.length c15],.agg #[.bool z10,.slice P17 y11.length c18]] rfl ?_;refine(tribunalref02_Cut.calls _ z7 _ _ y8 z10 _ _ y11 z20 x21 z22 x23 _ (K.C 2 rfl) (K.le 2 rfl) (K.C 3 rfl) (K.le 3 rfl) A24.out).mono ?_;rintro e W29 ⟨v25,v26,rfl,al,am,hb⟩;refine⟨_,rfl,?_⟩;have K1:=K.u.addF (fun _=>False) hb al;replace K:=K.u.moreF (fun _=>False) K1 am;clear K1;clear hb al am;obtain⟨P30,c31,e32⟩:=K.slice 4 rfl;subst e32;obtain⟨P33,c34,e35⟩:=K.slice 5 rfl;subst e35)|(refine gd 5 rfl ?_;refine kbk 5 #[.bool false,.slice none 0 0] 73 K.u ?_;clear K;intro g36 W37 K)|(refine gd 6 rfl ?_;refine kbk 6 #[.bool false,.slice none 0 0] 73 K.u ?_;clear K;intro g38 W39 K)|(refine gs 73 5 15 rfl ?_;refine ks2 3 (.bool z20) (.slice P30 x21.length c31) K.u rfl ?_;clear K;intro W40 K;simp only[kls,klv]at K)|(refine gs 73 6 16 rfl ?_;refine ks2 4 (.bool z22) (.slice P33 x23.length c34) K.u rfl ?_;clear K;intro W42 K;simp only[kls,klv]at K))
    replace h:=bindA h
    obtain⟨⟨z44,x45⟩,A46,h⟩:=h
    dsimp only at h
    obtain⟨Bs,Vs,Os,hBs,hVs,hOs,K⟩:=K.abs
    have HS:Aside0 (∀l m o W,Kp w (Bs++l) m o W→W.cell? ⟨g3,0,none⟩=some (.bool z10)∧W.cell? ⟨g3,1,none⟩=some (.slice P17 y11.length c18)∧W.cell? ⟨g38,0,none⟩=some (.bool z22)∧W.cell? ⟨g38,1,none⟩=some (.slice P33 x23.length c34)):=⟨fun l m o W K=>by rw[hBs.out]at K;exact⟨K.cell 1 rfl 0 rfl,K.cell 1 rfl 1 rfl,K.cell 4 rfl 0 rfl,K.cell 4 rfl 1 rfl⟩⟩
    refine kpstart (n:=6) (ds:=[5]) (S:=fun W=>W.cell? ⟨g3,0,none⟩=some (.bool z10)∧W.cell? ⟨g3,1,none⟩=some (.slice P17 y11.length c18)∧W.cell? ⟨g38,0,none⟩=some (.bool z22)∧W.cell? ⟨g38,1,none⟩=some (.slice P33 x23.length c34)) (bm_ 6 0) X0 rfl rfl K (HS.out [] _ _) (fun W48 K hH=>?_)
    refine tk_ 0 17 ?_ (bm_ 6 1) rfl rfl X0 (fun _ _ _ h=>h) F1 ?_ hH ?_ ?_ ?_
    rotate_left
    ·rintro w' ⟨s0,s1,s2,s3⟩
     go_simp
     with_reducible rfl
    rotate_left
    ·simp only[Act.put,kss,i64_w,i32_w]
     rfl
    refine pu_ 1 18 ?_ (bm_ 6 3) rfl rfl X0 (fun _ _ _ h=>h) F1 ?_ ?_ ?_ ?_
    rotate_left
    ·intro w'
     go_simp
     with_reducible rfl
    rotate_left
    ·simp only[Act.put,kss,i64_w,i32_w]
     rfl
    refine tk_ 2 19 ?_ (bm_ 6 7) rfl rfl X0 (fun _ _ _ h=>h) F1 ?_ hH ?_ ?_ ?_
    rotate_left
    ·rintro w' ⟨s0,s1,s2,s3⟩
     go_simp
     with_reducible rfl
    rotate_left
    ·simp only[Act.put,kss,i64_w,i32_w]
     rfl
    refine one_ (i:=3) (N:=some 20) (bm_ 6 15) rfl rfl X0 J0 (fun Kc hK=>?_)
    refine kgo Tryz.func84 #[.bool false,.slice P33 x23.length c34] F1 rfl rfl ?_
    refine(tribunalref02_Make.calls _ false _ _ _ x23 z44 x45 _ (K.V 5 (hv hVs rfl)) A46.out).mono ?_
    rintro e W' ⟨v47,rfl,an,hb⟩
    replace K:=K.addI 0 (fun _=>False) hb an (fun _ h=>h)
    clear hb an
    refine⟨_,rfl,hK.out _ _ (HS.out _ _ _ _ K) fun hH=>?_⟩
    clear hK Kc
    refine norm_ (a':=?_) ?_ ?_
    rotate_left
    ·show Act.put _ (some 20) _=_
     simp only[Act.put,kss,i64_w,i32_w]
     rfl
    obtain⟨P50,c51,e52⟩:=K.slice 6 (hv hVs rfl)
    subst e52
    rw[hBs.out,hVs.out,hOs.out]at K
    simp only[kls,klv]at K
    clear hBs hVs hOs HS hH
    refine ko2 (i:=4) (bm_ 6 31) 0 (.bool z10) (.slice P17 y11.length c18) K rfl rfl rfl X0 J0 F1 (fun W K=>⟨K.cell 1 rfl 0 rfl,K.cell 1 rfl 1 rfl,K.cell 4 rfl 0 rfl,K.cell 4 rfl 1 rfl⟩) ?_
    clear K
    intro W53 K
    simp only[kls,klv]at K
    refine klast2 (i:=5) (bm_ 6 63) 1 (.bool z44) (.slice P50 x45.length c51) K rfl rfl rfl X0 J0 F1 ?_ ?_
    ·intro c0 c1 f0 f1
     first|(go_simp;done)|(go_simp;rfl)
    clear K
    intro W54 K
    simp only[kls,klv]at K
    refine done_ X0 ?_
    go_wp2
    have HK0:=Aside0.mk (carryP (K.front 3) 2 (fun k=>(P0_1_ k∨P1_1_ k)∨w.heap.size≤k) [3,6] ⟨⟨_,rfl,fun k h=>by first|exact h.elim id .inr|exact h.elim (fun h=>.inl (.inl h)) .inr|exact h.elim (fun h=>.inl (.inr h)) .inr|exact h.elim False.elim .inr|exact h.elim (fun h=>.inl h) .inr⟩,⟨_,rfl,fun k h=>by first|exact h.elim id .inr|exact h.elim (fun h=>.inl (.inl h)) .inr|exact h.elim (fun h=>.inl (.inr h)) .inr|exact h.elim False.elim .inr|exact h.elim (fun h=>.inl h) .inr⟩,trivial⟩)
    clear K
    replace h:=Aside0.mk h
    go_roundg k1
    case measure=>have:=HK1.out;omega
    case rel=>exact⟨_,_,_,_,_,_,h,⟨Y3⟩,⟨HK0.out.reV hVl hOl rfl⟩⟩
   rw[if_neg c_0]at h
   have ap:decide ((y11.length:Int)>0)=false:=decide_eq_false c_0
   replace h:=bindA h
   obtain⟨⟨z20,x21⟩,A22,h⟩:=h
   dsimp only at h
   simp only[Option.some.injEq,Prod.mk.injEq]at h
   obtain⟨rfl,rfl⟩:=h
   obtain⟨ua1,ub1⟩:=K.cell2 1 rfl
   obtain⟨ua0,ub0⟩:=K.cell2 0 rfl
   go_wp2_with (first|(refine gd 23 rfl ?_;clear ua1 ub1 ua0 ub0;refine kgl (some 23) rfl rfl Tryz.func84 #[.bool false,.slice P14 y8.length c15] rfl ?_;refine(tribunalref02_Make.calls _ false _ _ _ y8 z20 x21 _ (K.V 2 rfl) A22.out).mono ?_;rintro e W25 ⟨v23,rfl,ao,hb⟩;refine⟨_,rfl,?_⟩;replace K:=K.u.add (fun k=>(P0_1_ k∨P1_1_ k)∨w.heap.size≤k) hb ao (fun _ h=>h);clear hb ao;obtain⟨P26,c27,e28⟩:=K.slice 4 rfl;subst e28)|(refine gs 73 4 23 rfl ?_;refine ks2 2 (.bool z20) (.slice P26 x21.length c27) K.u rfl ?_;clear K;intro W29 K;simp only[kls,klv]at K))
   refine bodyPost_ret (results_single rfl (.cell g5 73 #[.bool z20,.slice P26 x21.length c27] (0,0) _ rfl (K.u.heap 2 rfl) Tryz.underlying73 rfl X0 .nil)) rfl ?_
   exact⟨_,rfl,K.u.hand 4 rfl (fun k_ h=>h.elim id .inr),K.u.below⟩
def tribunalref02_Minus.f (k:Nat) (a0_0:Bool) (l0_1:List Int):Option (Bool×List Int):=(tribunalref02_Make.f k (!a0_0) l0_1).bind fun bt1023=>(some (bt1023.1,bt1023.2))
theorem tribunalref02_Minus.calls (k:Nat) (ab:Bool) (P0_1_:Nat→Prop) (ac:Option Addr) (ad:Nat) (aa:List Int) (r1:Bool) (r2:List Int) (w:World) (ae:Kd.V (Kd.int .u16) 83 w w.heap.size (fun k_=>P0_1_ k_) (.slice ac aa.length ad) aa) (h:tribunalref02_Minus.f k ab aa=some (r1,r2)) :
  Calls Tryz.prog 105 #[.agg #[.bool ab,.slice ac aa.length ad]] w fun e w'=>∃v1_:Value,e=.returned (.agg #[.bool r1,v1_])∧Kd.V (Kd.int .u16) 83 w' w.heap.size (fun k_=>(P0_1_ k_∨w.heap.size≤k_)) v1_ r2∧Below w.heap.size w w':=by
 have af:=Tryz.underlying73
 have K:=Kp.refl w
 replace K:=K.parV (Kd.V_mono (ok':=fun k=>P0_1_ k) ae (fun _ h=>h))
 clear ae
 try simp only[klv]at K
 rw[tribunalref02_Minus.f]at h
 replace h:=bindA h
 obtain⟨⟨z5,x6⟩,A7,h⟩:=h
 dsimp only at h
 simp only[Option.some.injEq,Prod.mk.injEq]at h
 obtain⟨rfl,rfl⟩:=h
 go_enter Tryz.func105,Tryz.ntmps105
 go_wp2_with (first|(refine gd 1 rfl ?_;refine kbk 1 #[.bool ab,.slice ac aa.length ad] 73 K.u ?_;clear K;intro g1 W2 K)|(refine gd 2 rfl ?_;refine kbk 2 #[.bool false,.slice none 0 0] 73 K.u ?_;clear K;intro g3 W4 K;obtain⟨ua0,ub0⟩:=K.cell2 0 rfl)|(refine gd 8 rfl ?_;clear ua0 ub0;refine kgl (some 8) rfl rfl Tryz.func84 #[.bool !ab,.slice ac aa.length ad] rfl ?_;refine(tribunalref02_Make.calls _ (!ab) _ _ _ aa z5 x6 _ (K.V 0 rfl) A7.out).mono ?_;rintro e W10 ⟨v8,rfl,ho9,hb⟩;refine⟨_,rfl,?_⟩;replace K:=K.u.add (fun k=>P0_1_ k) hb ho9 (fun _ h=>h);clear hb ho9;obtain⟨P11,c12,e13⟩:=K.slice 1 rfl;subst e13)|(refine gs 73 2 8 rfl ?_;refine ks2 1 (.bool z5) (.slice P11 x6.length c12) K.u rfl ?_;clear K;intro W14 K;simp only[kls,klv]at K))
 refine bodyPost_ret (results_single rfl (.cell g3 73 #[.bool z5,.slice P11 x6.length c12] (0,0) _ rfl (K.u.heap 1 rfl) Tryz.underlying73 rfl X0 .nil)) rfl ?_
 exact⟨_,rfl,K.u.hand 1 rfl (fun k_ h=>h.elim (fun h=>.inl h) .inr),K.u.below⟩
def tribunalref03_Low.f (k:Nat) (a0_0:Bool) (l0_1:List Int) (a1_0:Bool) (l1_1:List Int):Option (Bool×List Int×Bool×List Int):=(tribunalref03_gcd.f k a0_0 l0_1 a1_0 l1_1).bind fun bt1030=>((tribunalref02_Cut.f k a0_0 l0_1 bt1030.1 bt1030.2).bind fun bt1035=>((tribunalref02_Cut.f k a1_0 l1_1 bt1030.1 bt1030.2).bind fun bt1045=>(if a1_0=true then((tribunalref02_Minus.f k bt1035.1 bt1035.2.1).bind fun bt1055=>((tribunalref02_Minus.f k bt1045.1 bt1045.2.1).bind fun bt1059=>(some (bt1055.1,bt1055.2,bt1059.1,bt1059.2)))) else(some (bt1035.1,bt1035.2.1,bt1045.1,bt1045.2.1)))))
theorem tribunalref03_Low.calls (k:Nat) (ac:Bool) (P0_1_:Nat→Prop) (ad:Option Addr) (ae:Nat) (aa:List Int) (am:Bool) (P1_1_:Nat→Prop) (af:Option Addr) (ag:Nat) (ab:List Int) (r1:Bool) (r2:List Int) (r3:Bool) (r4:List Int) (w:World) (an:Kd.V (Kd.int .u16) 83 w w.heap.size (fun k_=>P0_1_ k_) (.slice ad aa.length ae) aa) (ao:Kd.V (Kd.int .u16) 83 w w.heap.size (fun k_=>P1_1_ k_) (.slice af ab.length ag) ab) (h:tribunalref03_Low.f k ac aa am ab=some (r1,r2,r3,r4)) :
  Calls Tryz.prog 45 #[.agg #[.bool ac,.slice ad aa.length ae],.agg #[.bool am,.slice af ab.length ag]] w fun e w'=>∃v1_ v3_:Value,e=.returned (.agg #[.bool r1,v1_,.bool r3,v3_])∧Kd.V (Kd.int .u16) 83 w' w.heap.size (fun k_=>((P0_1_ k_∨P1_1_ k_)∨w.heap.size≤k_)) v1_ r2∧Kd.V (Kd.int .u16) 83 w' w.heap.size (fun k_=>((P0_1_ k_∨P1_1_ k_)∨w.heap.size≤k_)) v3_ r4∧Below w.heap.size w w':=by
 have ar:=Tryz.underlying73
 have au:=Tryz.underlying75
 have K:=Kp.refl w
 replace K:=K.parV (Kd.V_mono (ok':=fun k=>P0_1_ k) an (fun _ h=>h))
 clear an
 replace K:=K.parV (Kd.V_mono (ok':=fun k=>P1_1_ k) ao (fun _ h=>h))
 clear ao
 try simp only[klv]at K
 rw[tribunalref03_Low.f]at h
 replace h:=bindA h
 obtain⟨⟨z7,x8⟩,A9,h⟩:=h
 dsimp only at h
 replace h:=bindA h
 obtain⟨⟨z20,x21,z22,x23⟩,A24,h⟩:=h
 dsimp only at h
 replace h:=bindA h
 obtain⟨⟨z44,x45,z46,x47⟩,A48,h⟩:=h
 dsimp only at h
 by_cases c_0:am=true
 ·subst c_0
  rw[if_pos rfl]at h
  go_enter Tryz.func45,Tryz.ntmps45
  go_wp2_with (first|(refine gd 2 rfl ?_;refine kbk 2 #[.bool ac,.slice ad aa.length ae] 73 K.u ?_;clear K;intro g1 W2 K)|(refine gd 3 rfl ?_;refine kbk 3 #[.bool true,.slice af ab.length ag] 73 K.u ?_;clear K;intro g3 W4 K)|(refine gd 4 rfl ?_;refine kbk 4 #[.bool false,.slice none 0 0,.bool false,.slice none 0 0] 75 K.u ?_;clear K;intro g5 W6 K;obtain⟨ua0,ub0⟩:=K.cell2 0 rfl;obtain⟨ua1,ub1⟩:=K.cell2 1 rfl)|(refine gd 12 rfl ?_;clear ua0 ub0 ua1 ub1;refine kgl (some 12) rfl rfl Tryz.func61 #[.agg #[.bool ac,.slice ad aa.length ae],.agg #[.bool true,.slice af ab.length ag]] rfl ?_;refine(tribunalref03_gcd.calls _ ac _ _ _ aa true _ _ _ ab z7 x8 _ (K.V 0 rfl) (K.V 1 rfl) A9.out).mono ?_;rintro e W12 ⟨v10,rfl,ah,hb⟩;refine⟨_,rfl,?_⟩;replace K:=K.u.add (fun k=>(fun k=>P0_1_ k) k∨(fun k=>P1_1_ k) k) hb ah (fun _ h=>h.elim (fun h=>h.l) fun h=>h.r);clear hb ah;obtain⟨P13,c14,e15⟩:=K.slice 2 rfl;subst e15)|(refine gd 5 rfl ?_;refine kbk 5 #[.bool false,.slice none 0 0] 73 K.u ?_;clear K;intro g16 W17 K)|(refine gs 73 5 12 rfl ?_;refine ks2 3 (.bool z7) (.slice P13 x8.length c14) K.u rfl ?_;clear K;intro W18 K;simp only[kls,klv]at K;obtain⟨ua0,ub0⟩:=K.cell2 0 rfl;obtain⟨ua3,ub3⟩:=K.cell2 3 rfl)|(refine gd 16 rfl ?_;clear ua0 ub0 ua3 ub3;refine kgl (some 16) rfl rfl Tryz.func100 #[.agg #[.bool ac,.slice ad aa.length ae],.agg #[.bool z7,.slice P13 x8.length c14]] rfl ?_;refine(tribunalref02_Cut.calls _ ac _ _ aa z7 _ _ x8 z20 x21 z22 x23 _ (K.C 0 rfl) (K.le 0 rfl) (K.C 2 rfl) (K.le 2 rfl) A24.out).mono ?_;rintro e W29 ⟨v25,v26,rfl,ai,aj,hb⟩;refine⟨_,rfl,?_⟩;have K1:=K.u.addF (fun _=>False) hb ai;replace K:=K.u.moreF (fun _=>False) K1 aj;clear K1;clear hb ai aj;obtain⟨P30,c31,e32⟩:=K.slice 3 rfl;subst e32;obtain⟨P33,c34,e35⟩:=K.slice 4 rfl;subst e35)|(refine gd 6 rfl ?_;refine kbk 6 #[.bool false,.slice none 0 0] 73 K.u ?_;clear K;intro g36 W37 K)|(refine gd 7 rfl ?_;refine kbk 7 #[.bool false,.slice none 0 0] 73 K.u ?_;clear K;intro g38 W39 K)|(refine gs 73 6 17 rfl ?_;refine ks2 4 (.bool z20) (.slice P30 x21.length c31) K.u rfl ?_;clear K;intro W40 K;simp only[kls,klv]at K)|(refine gs 73 7 18 rfl ?_;refine ks2 5 (.bool z22) (.slice P33 x23.length c34) K.u rfl ?_;clear K;intro W42 K;simp only[kls,klv]at K;obtain⟨ua1,ub1⟩:=K.cell2 1 rfl;obtain⟨ua3,ub3⟩:=K.cell2 3 rfl)|(refine gd 22 rfl ?_;clear ua1 ub1 ua3 ub3;refine kgl (some 22) rfl rfl Tryz.func100 #[.agg #[.bool true,.slice af ab.length ag],.agg #[.bool z7,.slice P13 x8.length c14]] rfl ?_;refine(tribunalref02_Cut.calls _ true _ _ ab z7 _ _ x8 z44 x45 z46 x47 _ (K.C 1 rfl) (K.le 1 rfl) (K.C 2 rfl) (K.le 2 rfl) A48.out).mono ?_;rintro e W53 ⟨v49,v50,rfl,ak,al,hb⟩;refine⟨_,rfl,?_⟩;have K1:=K.u.addF (fun _=>False) hb ak;replace K:=K.u.moreF (fun _=>False) K1 al;clear K1;clear hb ak al;obtain⟨P54,c55,e56⟩:=K.slice 5 rfl;subst e56;obtain⟨P57,c58,e59⟩:=K.slice 6 rfl;subst e59)|(refine gd 8 rfl ?_;refine kbk 8 #[.bool false,.slice none 0 0] 73 K.u ?_;clear K;intro g60 W61 K)|(refine gd 9 rfl ?_;refine kbk 9 #[.bool false,.slice none 0 0] 73 K.u ?_;clear K;intro g62 W63 K)|(refine gs 73 8 23 rfl ?_;refine ks2 6 (.bool z44) (.slice P54 x45.length c55) K.u rfl ?_;clear K;intro W64 K;simp only[kls,klv]at K)|(refine gs 73 9 24 rfl ?_;refine ks2 7 (.bool z46) (.slice P57 x47.length c58) K.u rfl ?_;clear K;intro W66 K;simp only[kls,klv]at K;obtain⟨ua1,ub1⟩:=K.cell2 1 rfl))
  clear ua1 ub1
  replace h:=bindA h
  obtain⟨⟨z68,x69⟩,A70,h⟩:=h
  dsimp only at h
  replace h:=bindA h
  obtain⟨⟨z71,x72⟩,A73,h⟩:=h
  dsimp only at h
  obtain⟨Bs,Vs,Os,hBs,hVs,hOs,K⟩:=K.abs
  have HS:Aside0 (∀l m o W,Kp w (Bs++l) m o W→W.cell? ⟨g36,0,none⟩=some (.bool z20)∧W.cell? ⟨g36,1,none⟩=some (.slice P30 x21.length c31)∧W.cell? ⟨g60,0,none⟩=some (.bool z44)∧W.cell? ⟨g60,1,none⟩=some (.slice P54 x45.length c55)):=⟨fun l m o W K=>by rw[hBs.out]at K;exact⟨K.cell 4 rfl 0 rfl,K.cell 4 rfl 1 rfl,K.cell 6 rfl 0 rfl,K.cell 6 rfl 1 rfl⟩⟩
  refine kpstart (n:=6) (ds:=[4,5]) (S:=fun W=>W.cell? ⟨g36,0,none⟩=some (.bool z20)∧W.cell? ⟨g36,1,none⟩=some (.slice P30 x21.length c31)∧W.cell? ⟨g60,0,none⟩=some (.bool z44)∧W.cell? ⟨g60,1,none⟩=some (.slice P54 x45.length c55)) (bm_ 6 0) X0 rfl rfl K (HS.out [] _ _) (fun W76 K hH=>?_)
  refine tk_ 0 27 ?_ (bm_ 6 1) rfl rfl X0 (fun _ _ _ h=>h) F1 ?_ hH ?_ ?_ ?_
  rotate_left
  ·rintro w' ⟨s0,s1,s2,s3⟩
   go_simp
   with_reducible rfl
  rotate_left
  ·simp only[Act.put,kss,i64_w,i32_w]
   rfl
  refine tk_ 2 29 ?_ (bm_ 6 5) rfl rfl X0 (fun _ _ _ h=>h) F1 ?_ hH ?_ ?_ ?_
  rotate_left
  ·rintro w' ⟨s0,s1,s2,s3⟩
   go_simp
   with_reducible rfl
  rotate_left
  ·simp only[Act.put,kss,i64_w,i32_w]
   rfl
  refine one_ (i:=1) (N:=some 28) (bm_ 6 7) rfl rfl X0 J0 (fun Kc hK=>?_)
  refine kgo Tryz.func105 #[.agg #[.bool z20,.slice P30 x21.length c31]] F1 rfl rfl ?_
  refine(tribunalref02_Minus.calls _ z20 _ _ _ x21 z68 x69 _ (K.V 3 (hv hVs rfl)) A70.out).mono ?_
  rintro e W' ⟨v74,rfl,ap,hb⟩
  replace K:=K.addI 0 (fun _=>False) hb ap (fun _ h=>h)
  clear hb ap
  refine⟨_,rfl,hK.out _ _ (HS.out _ _ _ _ K) fun hH=>?_⟩
  clear hK Kc
  refine norm_ (a':=?_) ?_ ?_
  rotate_left
  ·show Act.put _ (some 28) _=_
   simp only[Act.put,kss,i64_w,i32_w]
   rfl
  refine one_ (i:=3) (N:=some 30) (bm_ 6 15) rfl rfl X0 J0 (fun Kc hK=>?_)
  refine kgo Tryz.func105 #[.agg #[.bool z44,.slice P54 x45.length c55]] F1 rfl rfl ?_
  refine(tribunalref02_Minus.calls _ z44 _ _ _ x45 z71 x72 _ (K.V 5 (hv hVs rfl)) A73.out).mono ?_
  rintro e W' ⟨v75,rfl,aq,hb⟩
  replace K:=K.addI 1 (fun _=>False) hb aq (fun _ h=>h)
  clear hb aq
  refine⟨_,rfl,hK.out _ _ (HS.out _ _ _ _ K) fun hH=>?_⟩
  clear hK Kc
  refine norm_ (a':=?_) ?_ ?_
  rotate_left
  ·show Act.put _ (some 30) _=_
   simp only[Act.put,kss,i64_w,i32_w]
   rfl
  obtain⟨P79,c80,e81⟩:=K.slice 7 (hv hVs rfl)
  subst e81
  obtain⟨P82,c83,e84⟩:=K.slice 8 (hv hVs rfl)
  subst e84
  rw[hBs.out,hVs.out,hOs.out]at K
  simp only[kls,klv]at K
  clear hBs hVs hOs HS hH
  refine klast2 (i:=4) (bm_ 6 31) 4 (.bool z68) (.slice P79 x69.length c80) K rfl rfl rfl X0 J0 F1 ?_ ?_
  ·intro c0 c1 f0 f1
   first|(go_simp;done)|(go_simp;rfl)
  clear K
  intro W85 K
  simp only[kls,klv]at K
  refine klast2 (i:=5) (bm_ 6 63) 6 (.bool z71) (.slice P82 x72.length c83) K rfl rfl rfl X0 J0 F1 ?_ ?_
  ·intro c0 c1 f0 f1
   first|(go_simp;done)|(go_simp;rfl)
  clear K
  intro W86 K
  simp only[kls,klv]at K
  refine done_ X0 ?_
  simp only[Option.some.injEq,Prod.mk.injEq]at h
  obtain⟨rfl,rfl,rfl,rfl⟩:=h
  obtain⟨ua4,ub4⟩:=K.cell2 4 rfl
  obtain⟨ua6,ub6⟩:=K.cell2 6 rfl
  go_wp2_with (first|(refine gs 75 4 33 rfl ?_;clear ua4 ub4 ua6 ub6;refine kstN 2 0 [.bool z68,.slice P79 x69.length c80,.bool z71,.slice P82 x72.length c83] K.u rfl ?q88 ?_;(case q88=>intro hc hf;have c0:=hc 0 _ rfl;have f0:=hf 0;have c1:=hc 1 _ rfl;have f1:=hf 1;have c2:=hc 2 _ rfl;have f2:=hf 2;have c3:=hc 3 _ rfl;have f3:=hf 3;clear hc hf;first|(go_simp;done)|(go_simp;rfl));clear K;intro W87 K;simp only[kls,klv,kpl,kss]at K))
  refine bodyPost_ret (results_single rfl (.cell g5 75 #[.bool z68,.slice P79 x69.length c80,.bool z71,.slice P82 x72.length c83] (0,0) _ rfl (K.u.heap 2 rfl) Tryz.underlying75 rfl X0 .nil)) rfl ?_
  exact⟨_,_,rfl,K.u.hand 7 rfl (fun k_ h=>h.elim (fun h=>h.elim) .inr),K.u.hand 8 rfl (fun k_ h=>h.elim (fun h=>h.elim) .inr),K.u.below⟩
 replace c_0:=Bool.eq_false_iff.mpr c_0
 subst c_0
 rw[if_neg J0]at h
 simp only[Option.some.injEq,Prod.mk.injEq]at h
 obtain⟨rfl,rfl,rfl,rfl⟩:=h
 go_enter Tryz.func45,Tryz.ntmps45
 go_wp2_with (first|(refine gd 2 rfl ?_;refine kbk 2 #[.bool ac,.slice ad aa.length ae] 73 K.u ?_;clear K;intro g1 W2 K)|(refine gd 3 rfl ?_;refine kbk 3 #[.bool false,.slice af ab.length ag] 73 K.u ?_;clear K;intro g3 W4 K)|(refine gd 4 rfl ?_;refine kbk 4 #[.bool false,.slice none 0 0,.bool false,.slice none 0 0] 75 K.u ?_;clear K;intro g5 W6 K;obtain⟨ua0,ub0⟩:=K.cell2 0 rfl;obtain⟨ua1,ub1⟩:=K.cell2 1 rfl)|(refine gd 12 rfl ?_;clear ua0 ub0 ua1 ub1;refine kgl (some 12) rfl rfl Tryz.func61 #[.agg #[.bool ac,.slice ad aa.length ae],.agg #[.bool false,.slice af ab.length ag]] rfl ?_;refine(tribunalref03_gcd.calls _ ac _ _ _ aa false _ _ _ ab z7 x8 _ (K.V 0 rfl) (K.V 1 rfl) A9.out).mono ?_;rintro e W12 ⟨v10,rfl,ah,hb⟩;refine⟨_,rfl,?_⟩;replace K:=K.u.add (fun k=>(fun k=>P0_1_ k) k∨(fun k=>P1_1_ k) k) hb ah (fun _ h=>h.elim (fun h=>h.l) fun h=>h.r);clear hb ah;obtain⟨P13,c14,e15⟩:=K.slice 2 rfl;subst e15)|(refine gd 5 rfl ?_;refine kbk 5 #[.bool false,.slice none 0 0] 73 K.u ?_;clear K;intro g16 W17 K)|(refine gs 73 5 12 rfl ?_;refine ks2 3 (.bool z7) (.slice P13 x8.length c14) K.u rfl ?_;clear K;intro W18 K;simp only[kls,klv]at K;obtain⟨ua0,ub0⟩:=K.cell2 0 rfl;obtain⟨ua3,ub3⟩:=K.cell2 3 rfl)|(refine gd 16 rfl ?_;clear ua0 ub0 ua3 ub3;refine kgl (some 16) rfl rfl Tryz.func100 #[.agg #[.bool ac,.slice ad aa.length ae],.agg #[.bool z7,.slice P13 x8.length c14]] rfl ?_;refine(tribunalref02_Cut.calls _ ac _ _ aa z7 _ _ x8 z20 x21 z22 x23 _ (K.C 0 rfl) (K.le 0 rfl) (K.C 2 rfl) (K.le 2 rfl) A24.out).mono ?_;rintro e W29 ⟨v25,v26,rfl,ai,aj,hb⟩;refine⟨_,rfl,?_⟩;have K1:=K.u.addF (fun _=>False) hb ai;replace K:=K.u.moreF (fun _=>False) K1 aj;clear K1;clear hb ai aj;obtain⟨P30,c31,e32⟩:=K.slice 3 rfl;subst e32;obtain⟨P33,c34,e35⟩:=K.slice 4 rfl;subst e35)|(refine gd 6 rfl ?_;refine kbk 6 #[.bool false,.slice none 0 0] 73 K.u ?_;clear K;intro g36 W37 K)|(refine gd 7 rfl ?_;refine kbk 7 #[.bool false,.slice none 0 0] 73 K.u ?_;clear K;intro g38 W39 K)|(refine gs 73 6 17 rfl ?_;refine ks2 4 (.bool z20) (.slice P30 x21.length c31) K.u rfl ?_;clear K;intro W40 K;simp only[kls,klv]at K)|(refine gs 73 7 18 rfl ?_;refine ks2 5 (.bool z22) (.slice P33 x23.length c34) K.u rfl ?_;clear K;intro W42 K;simp only[kls,klv]at K;obtain⟨ua1,ub1⟩:=K.cell2 1 rfl;obtain⟨ua3,ub3⟩:=K.cell2 3 rfl)|(refine gd 22 rfl ?_;clear ua1 ub1 ua3 ub3;refine kgl (some 22) rfl rfl Tryz.func100 #[.agg #[.bool false,.slice af ab.length ag],.agg #[.bool z7,.slice P13 x8.length c14]] rfl ?_;refine(tribunalref02_Cut.calls _ false _ _ ab z7 _ _ x8 z44 x45 z46 x47 _ (K.C 1 rfl) (K.le 1 rfl) (K.C 2 rfl) (K.le 2 rfl) A48.out).mono ?_;rintro e W53 ⟨v49,v50,rfl,ak,al,hb⟩;refine⟨_,rfl,?_⟩;have K1:=K.u.addF (fun _=>False) hb ak;replace K:=K.u.moreF (fun _=>False) K1 al;clear K1;clear hb ak al;obtain⟨P54,c55,e56⟩:=K.slice 5 rfl;subst e56;obtain⟨P57,c58,e59⟩:=K.slice 6 rfl;subst e59)|(refine gd 8 rfl ?_;refine kbk 8 #[.bool false,.slice none 0 0] 73 K.u ?_;clear K;intro g60 W61 K)|(refine gd 9 rfl ?_;refine kbk 9 #[.bool false,.slice none 0 0] 73 K.u ?_;clear K;intro g62 W63 K)|(refine gs 73 8 23 rfl ?_;refine ks2 6 (.bool z44) (.slice P54 x45.length c55) K.u rfl ?_;clear K;intro W64 K;simp only[kls,klv]at K)|(refine gs 73 9 24 rfl ?_;refine ks2 7 (.bool z46) (.slice P57 x47.length c58) K.u rfl ?_;clear K;intro W66 K;simp only[kls,klv]at K;obtain⟨ua1,ub1⟩:=K.cell2 1 rfl;obtain⟨ua4,ub4⟩:=K.cell2 4 rfl;obtain⟨ua6,ub6⟩:=K.cell2 6 rfl)|(refine gs 75 4 33 rfl ?_;clear ua1 ub1 ua4 ub4 ua6 ub6;refine kstN 2 0 [.bool z20,.slice P30 x21.length c31,.bool z44,.slice P54 x45.length c55] K.u rfl ?q69 ?_;(case q69=>intro hc hf;have c0:=hc 0 _ rfl;have f0:=hf 0;have c1:=hc 1 _ rfl;have f1:=hf 1;have c2:=hc 2 _ rfl;have f2:=hf 2;have c3:=hc 3 _ rfl;have f3:=hf 3;clear hc hf;first|(go_simp;done)|(go_simp;rfl));clear K;intro W68 K;simp only[kls,klv,kpl,kss]at K))
 refine bodyPost_ret (results_single rfl (.cell g5 75 #[.bool z20,.slice P30 x21.length c31,.bool z44,.slice P54 x45.length c55] (0,0) _ rfl (K.u.heap 2 rfl) Tryz.underlying75 rfl X0 .nil)) rfl ?_
 exact⟨_,_,rfl,K.u.hand 3 rfl (fun k_ h=>h.elim (fun h=>h.elim) .inr),K.u.hand 5 rfl (fun k_ h=>h.elim (fun h=>h.elim) .inr),K.u.below⟩
def tribunalref03_To.j0:Nat→Bool→Bool→List Int→Bool→List Int→Option (Bool×List Int×List Int×Int)
 | 0,_,_,_,_,_=>none
 | k+1,x17,x1074000,x1074001,x1074002,x1074003=>if x17=true then(some (false,([]:List Int),([]:List Int),5)) else((tribunalref02_To.f k x1074000 x1074001).bind fun bt1076=>((tribunalref02_To.f k x1074002 x1074003).bind fun bt1080=>(some (bt1076.1,bt1076.2,bt1080.2,0))))
def tribunalref03_To.f (k:Nat) (a0_0:Bool) (l0_1:List Int) (a0_2:Bool) (l0_3:List Int):Option (Bool×List Int×List Int×Int):=(tribunalref03_Low.f k a0_0 l0_1 a0_2 l0_3).bind fun bt1065=>((tribunalref03_long.f bt1065.1 bt1065.2.1).bind fun t1074=>(if t1074=true then(tribunalref03_To.j0 k true bt1065.1 bt1065.2.1 bt1065.2.2.1 bt1065.2.2.2) else((tribunalref03_long.f bt1065.2.2.1 bt1065.2.2.2).bind fun t1075=>(tribunalref03_To.j0 k t1075 bt1065.1 bt1065.2.1 bt1065.2.2.1 bt1065.2.2.2))))
def tribunalref03_To.T4:Bool×List (List Nat×List Nat):=(true,[([],[]),([0],[0]),([1],[1]),([],[]),([3],[3]),([4,2],[4]),([5],[5]),([2,6],[2,6]),([7,5,0,1,2,3,4,5,6,7],[7]),([8,0,1,2,3,4,5,6,7,8],[])])
def tribunalref03_To.B4:List Nat:=[0,1,3,0,8,31,63,127,255,511]
theorem tribunalref03_To.tab4:rtab .any (opsOf Tryz.f56 4)=tribunalref03_To.T4:=by kernel_rfl
theorem tribunalref03_To.bits4:waitsOk tribunalref03_To.T4.2 tribunalref03_To.B4=true:=by kernel_rfl
theorem tribunalref03_To.calls (k:Nat) (ac:Bool) (ae:Option Addr) (af:Nat) (aa:List Int) (ad:Bool) (ag:Option Addr) (ah:Nat) (ab:List Int) (r1:Bool) (r2:List Int) (r3:List Int) (r4:Int) (w:World) (ak:Kd.C (Kd.int .u16) w ae aa.length aa) (al:aa.length≤af) (am:Kd.C (Kd.int .u16) w ag ab.length ab) (an:ab.length≤ah) (h:tribunalref03_To.f k ac aa ad ab=some (r1,r2,r3,r4)) :
  Calls Tryz.prog 56 #[.agg #[.bool ac,.slice ae aa.length af,.bool ad,.slice ag ab.length ah]] w fun e w'=>∃v1_ v2_:Value,e=.returned (.tuple #[.agg #[.bool r1,v1_,v2_],.int .i64 r4])∧Kd.R (Kd.int .u64) 91 w' w.heap.size (fun k_=>some k_≠(v2_:Value).ownBlock) v1_ r2∧Kd.R (Kd.int .u64) 91 w' w.heap.size (fun k_=>some k_≠(v1_:Value).ownBlock) v2_ r3∧Below w.heap.size w w':=by
 have ar:=Tryz.underlying27
 have au:=Tryz.underlying73
 have av:=Tryz.underlying75
 have aq:∀(v0_ v1_:Value) (W_:World),(Instr.field 25 (.agg #[v0_,v1_]) 1).run Tryz.prog W_=.ok (v1_) W_:=fun _ _ _=>by kernel_rfl
 have K:=Kp.refl w
 replace K:=K.parV (Kd.V_mono (ok':=fun _=>True) (Kd.V_mk (e:=83) (base:=0) al (Kd.C_F (Kd.heap_int .u16) ak)) (fun _ h=>trivial))
 clear ak al
 replace K:=K.parV (Kd.V_mono (ok':=fun _=>True) (Kd.V_mk (e:=83) (base:=0) an (Kd.C_F (Kd.heap_int .u16) am)) (fun _ h=>trivial))
 clear am an
 try simp only[klv]at K
 rw[tribunalref03_To.f]at h
 replace h:=bindA h
 obtain⟨⟨z5,x6,z7,x8⟩,A9,h⟩:=h
 dsimp only at h
 replace h:=bindA h
 obtain⟨z25,A26,h⟩:=h
 by_cases c_0:z25=true
 ·subst c_0
  rw[if_pos rfl]at h
  obtain⟨k,rfl⟩:∃j,k=j+1:=by
   cases k with
   | zero=>simp[tribunalref03_To.j0]at h
   | succ k=>exact⟨k,rfl⟩
  rw[tribunalref03_To.j0]at h
  rw[if_pos rfl]at h
  simp only[Option.some.injEq,Prod.mk.injEq]at h
  obtain⟨rfl,rfl,rfl,rfl⟩:=h
  go_enter Tryz.func56,Tryz.ntmps56
  go_wp2_with (first|(refine gd 1 rfl ?_;refine kbk 1 #[.bool ac,.slice ae aa.length af,.bool ad,.slice ag ab.length ah] 75 K.u ?_;clear K;intro g1 W2 K)|(refine gd 2 rfl ?_;refine kbk 2 #[.bool false,.slice none 0 0,.slice none 0 0] 27 K.u ?_;clear K;intro g3 W4 K;have ua0:=K.cell 0 rfl 0 rfl;have ub0:=K.cell 0 rfl 1 rfl;have uc0:=K.cell 0 rfl 2 rfl;have ud0:=K.cell 0 rfl 3 rfl)|(refine gd 9 rfl ?_;clear ua0 ub0 uc0 ud0;refine kgl (some 9) rfl rfl Tryz.func45 #[.agg #[.bool ac,.slice ae aa.length af],.agg #[.bool ad,.slice ag ab.length ah]] rfl ?_;refine(tribunalref03_Low.calls _ ac _ _ _ aa ad _ _ _ ab z5 x6 z7 x8 _ (K.V 0 rfl) (K.V 1 rfl) A9.out).mono ?_;rintro e W14 ⟨v10,v11,rfl,ai,aj,hb⟩;refine⟨_,rfl,?_⟩;have K1:=K.u.add (fun _=>True) hb ai (fun _ h=>h.elim (fun h=>h.t) fun h=>h.t);replace K:=K.u.more (fun _=>True) K1 aj (fun _ h=>h.elim (fun h=>h.t) fun h=>h.t);clear K1;clear hb ai aj;obtain⟨P15,c16,e17⟩:=K.slice 2 rfl;subst e17;obtain⟨P18,c19,e20⟩:=K.slice 3 rfl;subst e20)|(refine gd 4 rfl ?_;refine kbk 4 #[.bool false,.slice none 0 0,.bool false,.slice none 0 0] 75 K.u ?_;clear K;intro g21 W22 K)|(refine gs 75 4 9 rfl ?_;refine kstN 2 0 [.bool z5,.slice P15 x6.length c16,.bool z7,.slice P18 x8.length c19] K.u rfl ?q24 ?_;(case q24=>intro hc hf;have c0:=hc 0 _ rfl;have f0:=hf 0;have c1:=hc 1 _ rfl;have f1:=hf 1;have c2:=hc 2 _ rfl;have f2:=hf 2;have c3:=hc 3 _ rfl;have f3:=hf 3;clear hc hf;first|(go_simp;done)|(go_simp;rfl));clear K;intro W23 K;simp only[kls,klv,kpl,kss]at K;have ua2:=K.cell 2 rfl 0 rfl;have ub2:=K.cell 2 rfl 1 rfl;have uc2:=K.cell 2 rfl 2 rfl;have ud2:=K.cell 2 rfl 3 rfl)|(refine gd 12 rfl ?_;clear ua2 ub2 uc2 ud2;refine kgl (some 12) rfl rfl Tryz.func55 #[.agg #[.bool z5,.slice P15 x6.length c16]] rfl ?_;refine(tribunalref03_long.calls z5 _ _ x6 true _ (K.C 2 rfl) (K.le 2 rfl) A26.out).mono ?_;rintro e W27 ⟨rfl,hb⟩;refine⟨_,rfl,?_⟩;replace K:=K.u.up hb;clear hb)|(refine gs 27 2 18 rfl ?_;refine kstN 1 0 [.bool false,.slice none 0 0,.slice none 0 0] K.u rfl ?q29 ?_;(case q29=>intro hc hf;have c0:=hc 0 _ rfl;have f0:=hf 0;have c1:=hc 1 _ rfl;have f1:=hf 1;have c2:=hc 2 _ rfl;have f2:=hf 2;clear hc hf;first|(go_simp;done)|(go_simp;rfl));clear K;intro W28 K;simp only[kls,klv,kpl,kss]at K))
  refine bodyPost_ret (results_list (rs:=[.cell 2 27,.tmp 3]) rfl Z1 (.cell g3 27 #[.bool false,.slice none 0 0,.slice none 0 0] (0,0) _ rfl (K.u.heap 1 rfl) Tryz.underlying27 rfl X0 (.tmp .nil))) rfl ?_
  exact⟨_,_,rfl,Kd.R_nil _ _ _ _ _,Kd.R_nil _ _ _ _ _,K.u.below⟩
 replace c_0:=Bool.eq_false_iff.mpr c_0
 subst c_0
 rw[if_neg J0]at h
 replace h:=bindA h
 obtain⟨z28,A29,h⟩:=h
 obtain⟨k,rfl⟩:∃j,k=j+1:=by
  cases k with
  | zero=>simp[tribunalref03_To.j0]at h
  | succ k=>exact⟨k,rfl⟩
 rw[tribunalref03_To.j0]at h
 by_cases c_1:z28=true
 ·subst c_1
  rw[if_pos rfl]at h
  simp only[Option.some.injEq,Prod.mk.injEq]at h
  obtain⟨rfl,rfl,rfl,rfl⟩:=h
  go_enter Tryz.func56,Tryz.ntmps56
  go_wp2_with (first|(refine gd 1 rfl ?_;refine kbk 1 #[.bool ac,.slice ae aa.length af,.bool ad,.slice ag ab.length ah] 75 K.u ?_;clear K;intro g1 W2 K)|(refine gd 2 rfl ?_;refine kbk 2 #[.bool false,.slice none 0 0,.slice none 0 0] 27 K.u ?_;clear K;intro g3 W4 K;have ua0:=K.cell 0 rfl 0 rfl;have ub0:=K.cell 0 rfl 1 rfl;have uc0:=K.cell 0 rfl 2 rfl;have ud0:=K.cell 0 rfl 3 rfl)|(refine gd 9 rfl ?_;clear ua0 ub0 uc0 ud0;refine kgl (some 9) rfl rfl Tryz.func45 #[.agg #[.bool ac,.slice ae aa.length af],.agg #[.bool ad,.slice ag ab.length ah]] rfl ?_;refine(tribunalref03_Low.calls _ ac _ _ _ aa ad _ _ _ ab z5 x6 z7 x8 _ (K.V 0 rfl) (K.V 1 rfl) A9.out).mono ?_;rintro e W14 ⟨v10,v11,rfl,ai,aj,hb⟩;refine⟨_,rfl,?_⟩;have K1:=K.u.add (fun _=>True) hb ai (fun _ h=>h.elim (fun h=>h.t) fun h=>h.t);replace K:=K.u.more (fun _=>True) K1 aj (fun _ h=>h.elim (fun h=>h.t) fun h=>h.t);clear K1;clear hb ai aj;obtain⟨P15,c16,e17⟩:=K.slice 2 rfl;subst e17;obtain⟨P18,c19,e20⟩:=K.slice 3 rfl;subst e20)|(refine gd 4 rfl ?_;refine kbk 4 #[.bool false,.slice none 0 0,.bool false,.slice none 0 0] 75 K.u ?_;clear K;intro g21 W22 K)|(refine gs 75 4 9 rfl ?_;refine kstN 2 0 [.bool z5,.slice P15 x6.length c16,.bool z7,.slice P18 x8.length c19] K.u rfl ?q24 ?_;(case q24=>intro hc hf;have c0:=hc 0 _ rfl;have f0:=hf 0;have c1:=hc 1 _ rfl;have f1:=hf 1;have c2:=hc 2 _ rfl;have f2:=hf 2;have c3:=hc 3 _ rfl;have f3:=hf 3;clear hc hf;first|(go_simp;done)|(go_simp;rfl));clear K;intro W23 K;simp only[kls,klv,kpl,kss]at K;have ua2:=K.cell 2 rfl 0 rfl;have ub2:=K.cell 2 rfl 1 rfl;have uc2:=K.cell 2 rfl 2 rfl;have ud2:=K.cell 2 rfl 3 rfl)|(refine gd 12 rfl ?_;clear ua2 ub2 uc2 ud2;refine kgl (some 12) rfl rfl Tryz.func55 #[.agg #[.bool z5,.slice P15 x6.length c16]] rfl ?_;refine(tribunalref03_long.calls z5 _ _ x6 false _ (K.C 2 rfl) (K.le 2 rfl) A26.out).mono ?_;rintro e W27 ⟨rfl,hb⟩;refine⟨_,rfl,?_⟩;replace K:=K.u.up hb;clear hb;have ua2:=K.cell 2 rfl 0 rfl;have ub2:=K.cell 2 rfl 1 rfl;have uc2:=K.cell 2 rfl 2 rfl;have ud2:=K.cell 2 rfl 3 rfl)|(refine gd 16 rfl ?_;clear ua2 ub2 uc2 ud2;refine gate_guard F1 ?_;refine kgl (some 16) rfl rfl Tryz.func55 #[.agg #[.bool z7,.slice P18 x8.length c19]] rfl ?_;refine(tribunalref03_long.calls z7 _ _ x8 true _ (K.C 3 rfl) (K.le 3 rfl) A29.out).mono ?_;rintro e W30 ⟨rfl,hb⟩;refine⟨_,rfl,?_⟩;replace K:=K.u.up hb;clear hb)|(refine gs 27 2 18 rfl ?_;refine kstN 1 0 [.bool false,.slice none 0 0,.slice none 0 0] K.u rfl ?q32 ?_;(case q32=>intro hc hf;have c0:=hc 0 _ rfl;have f0:=hf 0;have c1:=hc 1 _ rfl;have f1:=hf 1;have c2:=hc 2 _ rfl;have f2:=hf 2;clear hc hf;first|(go_simp;done)|(go_simp;rfl));clear K;intro W31 K;simp only[kls,klv,kpl,kss]at K))
  refine bodyPost_ret (results_list (rs:=[.cell 2 27,.tmp 3]) rfl Z1 (.cell g3 27 #[.bool false,.slice none 0 0,.slice none 0 0] (0,0) _ rfl (K.u.heap 1 rfl) Tryz.underlying27 rfl X0 (.tmp .nil))) rfl ?_
  exact⟨_,_,rfl,Kd.R_nil _ _ _ _ _,Kd.R_nil _ _ _ _ _,K.u.below⟩
 replace c_1:=Bool.eq_false_iff.mpr c_1
 subst c_1
 rw[if_neg J0]at h
 go_enter Tryz.func56,Tryz.ntmps56
 go_wp2_with (first|(refine gd 1 rfl ?_;refine kbk 1 #[.bool ac,.slice ae aa.length af,.bool ad,.slice ag ab.length ah] 75 K.u ?_;clear K;intro g1 W2 K)|(refine gd 2 rfl ?_;refine kbk 2 #[.bool false,.slice none 0 0,.slice none 0 0] 27 K.u ?_;clear K;intro g3 W4 K;have ua0:=K.cell 0 rfl 0 rfl;have ub0:=K.cell 0 rfl 1 rfl;have uc0:=K.cell 0 rfl 2 rfl;have ud0:=K.cell 0 rfl 3 rfl)|(refine gd 9 rfl ?_;clear ua0 ub0 uc0 ud0;refine kgl (some 9) rfl rfl Tryz.func45 #[.agg #[.bool ac,.slice ae aa.length af],.agg #[.bool ad,.slice ag ab.length ah]] rfl ?_;refine(tribunalref03_Low.calls _ ac _ _ _ aa ad _ _ _ ab z5 x6 z7 x8 _ (K.V 0 rfl) (K.V 1 rfl) A9.out).mono ?_;rintro e W14 ⟨v10,v11,rfl,ai,aj,hb⟩;refine⟨_,rfl,?_⟩;have K1:=K.u.add (fun _=>True) hb ai (fun _ h=>h.elim (fun h=>h.t) fun h=>h.t);replace K:=K.u.more (fun _=>True) K1 aj (fun _ h=>h.elim (fun h=>h.t) fun h=>h.t);clear K1;clear hb ai aj;obtain⟨P15,c16,e17⟩:=K.slice 2 rfl;subst e17;obtain⟨P18,c19,e20⟩:=K.slice 3 rfl;subst e20)|(refine gd 4 rfl ?_;refine kbk 4 #[.bool false,.slice none 0 0,.bool false,.slice none 0 0] 75 K.u ?_;clear K;intro g21 W22 K)|(refine gs 75 4 9 rfl ?_;refine kstN 2 0 [.bool z5,.slice P15 x6.length c16,.bool z7,.slice P18 x8.length c19] K.u rfl ?q24 ?_;(case q24=>intro hc hf;have c0:=hc 0 _ rfl;have f0:=hf 0;have c1:=hc 1 _ rfl;have f1:=hf 1;have c2:=hc 2 _ rfl;have f2:=hf 2;have c3:=hc 3 _ rfl;have f3:=hf 3;clear hc hf;first|(go_simp;done)|(go_simp;rfl));clear K;intro W23 K;simp only[kls,klv,kpl,kss]at K;have ua2:=K.cell 2 rfl 0 rfl;have ub2:=K.cell 2 rfl 1 rfl;have uc2:=K.cell 2 rfl 2 rfl;have ud2:=K.cell 2 rfl 3 rfl)|(refine gd 12 rfl ?_;clear ua2 ub2 uc2 ud2;refine kgl (some 12) rfl rfl Tryz.func55 #[.agg #[.bool z5,.slice P15 x6.length c16]] rfl ?_;refine(tribunalref03_long.calls z5 _ _ x6 false _ (K.C 2 rfl) (K.le 2 rfl) A26.out).mono ?_;rintro e W27 ⟨rfl,hb⟩;refine⟨_,rfl,?_⟩;replace K:=K.u.up hb;clear hb;have ua2:=K.cell 2 rfl 0 rfl;have ub2:=K.cell 2 rfl 1 rfl;have uc2:=K.cell 2 rfl 2 rfl;have ud2:=K.cell 2 rfl 3 rfl)|(refine gd 16 rfl ?_;clear ua2 ub2 uc2 ud2;refine gate_guard F1 ?_;refine kgl (some 16) rfl rfl Tryz.func55 #[.agg #[.bool z7,.slice P18 x8.length c19]] rfl ?_;refine(tribunalref03_long.calls z7 _ _ x8 false _ (K.C 3 rfl) (K.le 3 rfl) A29.out).mono ?_;rintro e W30 ⟨rfl,hb⟩;refine⟨_,rfl,?_⟩;replace K:=K.u.up hb;clear hb))
 replace h:=bindA h
 obtain⟨⟨z31,x32⟩,A33,h⟩:=h
 dsimp only at h
 replace h:=bindA h
 obtain⟨⟨z34,x35⟩,A36,h⟩:=h
 dsimp only at h
 obtain⟨Bs,Vs,Os,hBs,hVs,hOs,K⟩:=K.abs
 have HS:Aside0 (∀l m o W,Kp w (Bs++l) m o W→W.cell? ⟨g21,0,none⟩=some (.bool z5)∧W.cell? ⟨g21,1,none⟩=some (.slice P15 x6.length c16)∧W.cell? ⟨g21,2,none⟩=some (.bool z7)∧W.cell? ⟨g21,3,none⟩=some (.slice P18 x8.length c19)):=⟨fun l m o W K=>by rw[hBs.out]at K;exact⟨K.cell 2 rfl 0 rfl,K.cell 2 rfl 1 rfl,K.cell 2 rfl 2 rfl,K.cell 2 rfl 3 rfl⟩⟩
 refine kpstart (n:=10) (ds:=[]) (S:=fun W=>W.cell? ⟨g21,0,none⟩=some (.bool z5)∧W.cell? ⟨g21,1,none⟩=some (.slice P15 x6.length c16)∧W.cell? ⟨g21,2,none⟩=some (.bool z7)∧W.cell? ⟨g21,3,none⟩=some (.slice P18 x8.length c19)) (bm_ 10 0) X0 rfl rfl K (HS.out [] _ _) (fun W39 K hH=>?_)
 refine with_tabW tribunalref03_To.tab4 tribunalref03_To.bits4 (fun HT_ HW_=>?_)
 refine pu_ 0 19 ?_ (bm_ 10 1) rfl rfl (any_of HT_.out X0) (fun _ _ _ h=>h) F1 ?_ ?_ ?_ ?_
 rotate_left
 ·intro w'
  go_simp
  with_reducible rfl
 rotate_left
 ·simp only[Act.put,kss,i64_w,i32_w]
  rfl
 refine tk_ 1 20 ?_ (bm_ 10 3) rfl rfl (take_ofW HT_.out HW_.out X0) (fun _ _ _ h=>h) F1 ?_ hH ?_ ?_ ?_
 rotate_left
 ·rintro w' ⟨s0,s1,s2,s3⟩
  go_simp
  with_reducible rfl
 rotate_left
 ·simp only[Act.put,kss,i64_w,i32_w]
  rfl
 refine pu_ 3 22 ?_ (bm_ 10 11) rfl rfl (any_of HT_.out X0) (fun _ _ _ h=>h) F1 ?_ ?_ ?_ ?_
 rotate_left
 ·intro w'
  go_simp
  with_reducible rfl
 rotate_left
 ·simp only[Act.put,kss,i64_w,i32_w]
  rfl
 refine tk_ 4 23 ?_ (bm_ 10 27) rfl rfl (take_ofW HT_.out HW_.out X0) (fun _ _ _ h=>h) F1 ?_ hH ?_ ?_ ?_
 rotate_left
 ·rintro w' ⟨s0,s1,s2,s3⟩
  go_simp
  with_reducible rfl
 rotate_left
 ·simp only[Act.put,kss,i64_w,i32_w]
  rfl
 refine one_ (i:=2) (N:=some 21) (bm_ 10 31) rfl rfl (one_of HT_.out X0) J0 (fun Kc hK=>?_)
 refine kgo Tryz.func40 #[.agg #[.bool z5,.slice P15 x6.length c16]] F1 rfl rfl ?_
 refine(tribunalref02_To.calls _ z5 _ _ x6 z31 x32 _ (K.C 2 (hv hVs rfl)) (K.le 2 (hv hVs rfl)) A33.out).mono ?_
 rintro e W' ⟨v37,rfl,ao,hb⟩
 replace K:=K.addRI 0 0 hb ao (lb rfl)
 clear hb ao
 refine⟨_,rfl,hK.out _ _ (HS.out _ _ _ _ K) fun hH=>?_⟩
 clear hK Kc
 refine norm_ (a':=?_) ?_ ?_
 rotate_left
 ·show Act.put _ (some 21) _=_
  simp only[Act.put,kss,i64_w,i32_w]
  rfl
 refine one_ (i:=5) (N:=some 24) (bm_ 10 63) rfl rfl (one_of HT_.out X0) J0 (fun Kc hK=>?_)
 refine kgo Tryz.func40 #[.agg #[.bool z7,.slice P18 x8.length c19]] F1 rfl rfl ?_
 refine(tribunalref02_To.calls _ z7 _ _ x8 z34 x35 _ (K.C 3 (hv hVs rfl)) (K.le 3 (hv hVs rfl)) A36.out).mono ?_
 rintro e W' ⟨v38,rfl,ap,hb⟩
 replace K:=K.addRI 1 1 hb ap (lb rfl)
 clear hb ap
 refine⟨_,rfl,hK.out _ _ (HS.out _ _ _ _ K) fun hH=>?_⟩
 obtain⟨P42,c43,e44⟩:=K.slice 5 (hv hVs rfl)
 subst e44
 refine norm_ (a':=?_) ?_ ?_
 rotate_left
 ·show Act.put _ (some 24) _=_
  simp only[Act.put,kss,i64_w,i32_w]
  rfl
 refine pu_ 6 25 ?_ (bm_ 10 127) rfl rfl (any_of HT_.out X0) (fun _ _ _ h=>h) F1 ?_ ?_ ?_ ?_
 rotate_left
 ·intro w'
  go_simp
  with_reducible rfl
 rotate_left
 ·simp only[Act.put,kss,i64_w,i32_w]
  rfl
 refine pu_ 7 26 ?_ (bm_ 10 255) rfl rfl (any_of HT_.out X0) (fun _ _ _ h=>h) F1 ?_ ?_ ?_ ?_
 rotate_left
 ·intro w'
  go_simp
  with_reducible rfl
 rotate_left
 ·simp only[Act.put,kss,i64_w,i32_w]
  rfl
 clear hK Kc
 obtain⟨P45,c46,e47⟩:=K.slice 4 (hv hVs rfl)
 subst e47
 rw[hBs.out,hVs.out,hOs.out]at K
 simp only[kls,klv]at K
 clear hBs hVs hOs HS hH
 refine koneN (i:=8) (bm_ 10 511) 1 0 [.bool z31,.slice P45 x32.length c46,.slice P42 x35.length c43] K rfl rfl rfl (one_of HT_.out X0) J0 F1 ?_ (fun W K=>⟨K.cell 2 rfl 0 rfl,K.cell 2 rfl 1 rfl,K.cell 2 rfl 2 rfl,K.cell 2 rfl 3 rfl⟩) ?_
 ·intro hc hf;have c0:=hc 0 _ rfl;have f0:=hf 0;have c1:=hc 1 _ rfl;have f1:=hf 1;have c2:=hc 2 _ rfl;have f2:=hf 2;clear hc hf;first|(go_simp;done)|(go_simp;rfl)
 clear K
 intro W48 K
 simp only[kls,klv,kpl,kss]at K
 refine pu_ 9 3 ?_ (bm_ 10 1023) rfl rfl (any_of HT_.out X0) (fun _ _ _ h=>h) F1 ?_ ?_ ?_ ?_
 rotate_left
 ·intro w'
  go_simp
  with_reducible rfl
 rotate_left
 ·simp only[Act.put,kss,i64_w,i32_w]
  rfl
 refine done_ (done_of HT_.out X0) ?_
 clear HT_ HW_
 simp only[Option.some.injEq,Prod.mk.injEq]at h
 obtain⟨rfl,rfl,rfl,rfl⟩:=h
 go_wp2
 refine bodyPost_ret (results_list (rs:=[.cell 2 27,.tmp 3]) rfl Z1 (.cell g3 27 #[.bool z31,.slice P45 x32.length c46,.slice P42 x35.length c43] (0,0) _ rfl (K.u.heap 1 rfl) Tryz.underlying27 rfl X0 (.tmp .nil))) rfl ?_
 exact⟨_,_,rfl,K.u.Rne 0 rfl rfl fun k_ h_=>K.apart 0 1 rfl rfl J0 k_ h_,K.u.Rne 1 rfl rfl fun k_ h_=>K.apart 1 0 rfl rfl J0 k_ h_,K.u.below⟩
def tribunalref02_Small1.f (k:Nat) (a0:Int):Option (Bool×List Int):=if a0<0 then((tribunalref02_Make.f k true (([IntKind.u16.wrap (IntKind.u64.wrap (-(IntKind.u64.wrap (a0)))),IntKind.u16.wrap ((IntKind.u64.wrap (-(IntKind.u64.wrap (a0))))/65536),IntKind.u16.wrap ((IntKind.u64.wrap (-(IntKind.u64.wrap (a0))))/4294967296),IntKind.u16.wrap ((IntKind.u64.wrap (-(IntKind.u64.wrap (a0))))/281474976710656)]:List Int))).bind fun bt1088=>(some (bt1088.1,bt1088.2))) else((tribunalref02_Make.f k false (([IntKind.u16.wrap (IntKind.u64.wrap (a0)),IntKind.u16.wrap ((IntKind.u64.wrap (a0))/65536),IntKind.u16.wrap ((IntKind.u64.wrap (a0))/4294967296),IntKind.u16.wrap ((IntKind.u64.wrap (a0))/281474976710656)]:List Int))).bind fun bt1095=>(some (bt1095.1,bt1095.2)))
theorem tribunalref02_Small1.calls (k:Nat) (a0:Int) (r1:Bool) (r2:List Int) (w:World) (h:tribunalref02_Small1.f k a0=some (r1,r2)) :
  Calls Tryz.prog 102 #[.int .i64 a0] w fun e w'=>∃v1_:Value,e=.returned (.agg #[.bool r1,v1_])∧Kd.V (Kd.int .u16) 83 w' w.heap.size (fun k_=>(w.heap.size≤k_)) v1_ r2∧Below w.heap.size w w':=by
 have aS:=Tryz.underlying73
 have HB:=Aside0.mk (Below.refl w.heap.size w)
 have H:(if a0<0 then((tribunalref02_Make.f k true (([IntKind.u16.wrap (IntKind.u64.wrap (-(IntKind.u64.wrap (a0)))),IntKind.u16.wrap ((IntKind.u64.wrap (-(IntKind.u64.wrap (a0))))/65536),IntKind.u16.wrap ((IntKind.u64.wrap (-(IntKind.u64.wrap (a0))))/4294967296),IntKind.u16.wrap ((IntKind.u64.wrap (-(IntKind.u64.wrap (a0))))/281474976710656)]:List Int))).bind fun ae=>(some (ae.1,ae.2))) else((tribunalref02_Make.f k false (([IntKind.u16.wrap (IntKind.u64.wrap (a0)),IntKind.u16.wrap ((IntKind.u64.wrap (a0))/65536),IntKind.u16.wrap ((IntKind.u64.wrap (a0))/4294967296),IntKind.u16.wrap ((IntKind.u64.wrap (a0))/281474976710656)]:List Int))).bind fun af=>(some (af.1,af.2))))=some (r1,r2):=h
 clear h
 by_cases c2:a0<0
 ·rw[if_pos c2]at H
  have aC:decide (a0<0)=true:=decide_eq_true c2
  clear c2
  obtain⟨ak,ag⟩:∃y_:List Int,y_=(([IntKind.u16.wrap (IntKind.u64.wrap (-(IntKind.u64.wrap (a0)))),IntKind.u16.wrap ((IntKind.u64.wrap (-(IntKind.u64.wrap (a0))))/65536),IntKind.u16.wrap ((IntKind.u64.wrap (-(IntKind.u64.wrap (a0))))/4294967296),IntKind.u16.wrap ((IntKind.u64.wrap (-(IntKind.u64.wrap (a0))))/281474976710656)]:List Int)):=⟨_,rfl⟩
  replace H:((tribunalref02_Make.f k true ak).bind fun ae=>(some (ae.1,ae.2)))=some (r1,r2):=by first|(rw[ag];with_reducible exact H)|(have H2_:=(Option.bind_some _ _).symm.trans H;rw[ag];with_reducible exact H2_)|(have H2_:=(Option.bind_some _ _).symm.trans H;with_reducible exact H2_)|with_reducible exact H|(rw[ag];exact H)|exact H
  have aq:=Aside0.mk ag
  clear ag
  replace H:=Option.bind_eq_some_iff.mp H
  obtain⟨⟨ai,al⟩,A30,H⟩:=H
  replace H:(some (ai,al))=some (r1,r2):=H
  have A3:=Aside0.mk A30
  clear A30
  simp only[Option.some.injEq,Prod.mk.injEq]at H
  obtain⟨rfl,rfl⟩:=H
  go_enter Tryz.func102,Tryz.ntmps102
  go_wp2_with (first|(refine gd 2 rfl ?_;refine kbe 2 #[.bool false,.slice none 0 0] 73 ?_;intro ab hg w4 hbox hb;have aa:=Aside0.mk (hbox);have aw:=kbz hg HB;have ao:=kbz hg HB;replace HB:=kbs HB hb;clear hb hbox hg)|(refine gd 23 rfl ?_;refine Kd.R_lit (Kd.int .u16) _ 83 ?hg (N:=23) ?hd (xs:=([IntKind.u16.wrap (IntKind.u64.wrap (-(IntKind.u64.wrap (a0)))),IntKind.u16.wrap ((IntKind.u64.wrap (-(IntKind.u64.wrap (a0))))/65536),IntKind.u16.wrap ((IntKind.u64.wrap (-(IntKind.u64.wrap (a0))))/4294967296),IntKind.u16.wrap ((IntKind.u64.wrap (-(IntKind.u64.wrap (a0))))/281474976710656)]:List Int)) (inner:=[.int .u16 (IntKind.u16.wrap (IntKind.u64.wrap (-(IntKind.u64.wrap (a0))))),.int .u16 (IntKind.u16.wrap ((IntKind.u64.wrap (-(IntKind.u64.wrap (a0))))/65536)),.int .u16 (IntKind.u16.wrap ((IntKind.u64.wrap (-(IntKind.u64.wrap (a0))))/4294967296)),.int .u16 (IntKind.u16.wrap ((IntKind.u64.wrap (-(IntKind.u64.wrap (a0))))/281474976710656))]) (ok:=fun _=>True) (okp:=fun _=>True) ?hr ?hp (fun _ hk=>hk) trivial (Below.refl _ _) (Nat.le_refl _) Z1 ?_;(case hd=>rfl);(case hg=>rfl);(case hr=>first|(go_simp;done)|(go_simp;rfl));(case hp=>exact(Reps.one (show Kd.M (Kd.int .u16) _ _ _ (IntKind.u16.wrap (IntKind.u64.wrap (-(IntKind.u64.wrap (a0))))) [.int .u16 (IntKind.u16.wrap (IntKind.u64.wrap (-(IntKind.u64.wrap (a0)))))] from rfl) (Reps.one (show Kd.M (Kd.int .u16) _ _ _ (IntKind.u16.wrap ((IntKind.u64.wrap (-(IntKind.u64.wrap (a0))))/65536)) [.int .u16 (IntKind.u16.wrap ((IntKind.u64.wrap (-(IntKind.u64.wrap (a0))))/65536))] from rfl) (Reps.one (show Kd.M (Kd.int .u16) _ _ _ (IntKind.u16.wrap ((IntKind.u64.wrap (-(IntKind.u64.wrap (a0))))/4294967296)) [.int .u16 (IntKind.u16.wrap ((IntKind.u64.wrap (-(IntKind.u64.wrap (a0))))/4294967296))] from rfl) (Reps.one (show Kd.M (Kd.int .u16) _ _ _ (IntKind.u16.wrap ((IntKind.u64.wrap (-(IntKind.u64.wrap (a0))))/281474976710656)) [.int .u16 (IntKind.u16.wrap ((IntKind.u64.wrap (-(IntKind.u64.wrap (a0))))/281474976710656))] from rfl) (Reps.none _ _))))));intro aO w5 ho6 hb hg_ hnew_;clear hg_ hnew_;(first|rw[←aq.out]at ho6|(simp only[Int.reduceToNat]at ho6;rw[←aq.out]at ho6));have ac:=Aside0.mk (Kd.R_lower (Kd.R_newM (M:=fun k_=>(w.heap.size≤k_)) ho6 (below_size (khu HB.out)) (fun k_ h_=>h_)) (below_size (khu HB.out)));replace aa:=kbb aa hb;replace HB:=kbs HB hb;clear hb ho6;obtain⟨Ao7,co7,eo7⟩:=Kd.R_slice ac.out;subst eo7)|((with_reducible refine gate_callee (f:=84) rfl ?_);refine kgl (some 24) rfl rfl Tryz.func84 #[.bool true,.slice Ao7 ak.length co7] rfl ?_;(with_reducible refine(tribunalref02_Make.calls k true (fun k_=>some k_=(.slice Ao7 ak.length co7:Value).ownBlock) _ _ ak ai al _ ?side1 A3.out).mono ?_);(case side1=>exact Kd.R_V (Kd.R_tight rfl (Kd.R_types (ac.out) aa.out J0)));rintro e w8 ⟨aP,rfl,ho0,hb⟩;refine⟨_,rfl,?_⟩;have ar:=Aside0.mk (Kd.V_lower (Kd.V_mono (ok':=fun k_=>(w.heap.size≤k_)∧k_≠ab) ho0 (fun k_ hk_=>⟨Or.elim hk_ (fun hs_=>((Kd.R_types (ac.out) aa.out J0).1 k_ hs_.symm).1.1) (fun hn_=>(Nat.le_trans (below_size (khu HB.out)) hn_)),Or.elim hk_ (fun hs_=>((Kd.R_types (ac.out) aa.out J0).1 k_ hs_.symm).2) (kfb aa)⟩)) (below_size (khu HB.out)));replace ac:=krb ac hb;replace aa:=kbb aa hb;replace HB:=kbs HB hb;(try clear hb);(try clear hb2);(try clear hk);(try clear hi);(try clear ho0);have aK:w8.cell? ⟨ab,0,none⟩=some (.bool false):=(blk_cell aa.out 0).trans rfl;have aL:w8.cell? ⟨ab,1,none⟩=some (.slice none 0 0):=(blk_cell aa.out 1).trans rfl;have aM:=blk_frozen aa.out 0;have aN:=blk_frozen aa.out 1;obtain⟨ax,ay,aD⟩:=Kd.V_slice ar.out;subst aD))
  refine bodyPost_ret (results_cell_row rfl _ _ ab 73 #[.bool ai,.slice ax al.length ay] (0,0) _ rfl (kpu #[.bool ai,.slice none 0 0] 1 (kpu #[.bool false,.slice none 0 0] 0 (kbu aa.out))) Tryz.underlying73 rfl X0) rfl ?_
  exact⟨_,B0,by(with_reducible repeat (first|apply Kd.V_alloc|apply Kd.V_drewN|apply Kd.V_drew));exact Kd.V_mono (Kd.V_far (p:=⟨ab,1,none⟩) (Kd.V_far (p:=⟨ab,0,none⟩) (Kd.V_mono ar.out (fun k_ hk=>(⟨hk,hk.2⟩:_∧k_≠ab))) (fun _ hk=>hk.2) (.bool ai)) (fun _ hk=>hk.2) (.slice ax al.length ay)) (fun _ hk=>hk.1.1),by repeat (first|(with_reducible first|exact HB.out|apply below_alloc|apply pw_below_drewN|apply below_drew1|refine below_set ?_ ao.out)|exact HB.out)⟩
 rw[if_neg c2]at H
 have aC:decide (a0<0)=false:=decide_eq_false c2
 clear c2
 obtain⟨am,ah⟩:∃y_:List Int,y_=(([IntKind.u16.wrap (IntKind.u64.wrap (a0)),IntKind.u16.wrap ((IntKind.u64.wrap (a0))/65536),IntKind.u16.wrap ((IntKind.u64.wrap (a0))/4294967296),IntKind.u16.wrap ((IntKind.u64.wrap (a0))/281474976710656)]:List Int)):=⟨_,rfl⟩
 replace H:((tribunalref02_Make.f k false am).bind fun af=>(some (af.1,af.2)))=some (r1,r2):=by first|(rw[ah];with_reducible exact H)|(have H2_:=(Option.bind_some _ _).symm.trans H;rw[ah];with_reducible exact H2_)|(have H2_:=(Option.bind_some _ _).symm.trans H;with_reducible exact H2_)|with_reducible exact H|(rw[ah];exact H)|exact H
 have au:=Aside0.mk ah
 clear ah
 replace H:=Option.bind_eq_some_iff.mp H
 obtain⟨⟨aj,an⟩,az,H⟩:=H
 replace H:(some (aj,an))=some (r1,r2):=H
 have A11:=Aside0.mk az
 clear az
 simp only[Option.some.injEq,Prod.mk.injEq]at H
 obtain⟨rfl,rfl⟩:=H
 go_enter Tryz.func102,Tryz.ntmps102
 go_wp2_with (first|(refine gd 2 rfl ?_;refine kbe 2 #[.bool false,.slice none 0 0] 73 ?_;intro ab hg w12 hbox hb;have aa:=Aside0.mk (hbox);have aw:=kbz hg HB;have ao:=kbz hg HB;replace HB:=kbs HB hb;clear hb hbox hg)|(refine gd 23 rfl ?_;refine Kd.R_lit (Kd.int .u16) _ 83 ?hg (N:=23) ?hd (xs:=([IntKind.u16.wrap (IntKind.u64.wrap (a0)),IntKind.u16.wrap ((IntKind.u64.wrap (a0))/65536),IntKind.u16.wrap ((IntKind.u64.wrap (a0))/4294967296),IntKind.u16.wrap ((IntKind.u64.wrap (a0))/281474976710656)]:List Int)) (inner:=[.int .u16 (IntKind.u16.wrap (IntKind.u64.wrap (a0))),.int .u16 (IntKind.u16.wrap ((IntKind.u64.wrap (a0))/65536)),.int .u16 (IntKind.u16.wrap ((IntKind.u64.wrap (a0))/4294967296)),.int .u16 (IntKind.u16.wrap ((IntKind.u64.wrap (a0))/281474976710656))]) (ok:=fun _=>True) (okp:=fun _=>True) ?hr ?hp (fun _ hk=>hk) trivial (Below.refl _ _) (Nat.le_refl _) Z1 ?_;(case hd=>rfl);(case hg=>rfl);(case hr=>first|(go_simp;done)|(go_simp;rfl));(case hp=>exact(Reps.one (show Kd.M (Kd.int .u16) _ _ _ (IntKind.u16.wrap (IntKind.u64.wrap (a0))) [.int .u16 (IntKind.u16.wrap (IntKind.u64.wrap (a0)))] from rfl) (Reps.one (show Kd.M (Kd.int .u16) _ _ _ (IntKind.u16.wrap ((IntKind.u64.wrap (a0))/65536)) [.int .u16 (IntKind.u16.wrap ((IntKind.u64.wrap (a0))/65536))] from rfl) (Reps.one (show Kd.M (Kd.int .u16) _ _ _ (IntKind.u16.wrap ((IntKind.u64.wrap (a0))/4294967296)) [.int .u16 (IntKind.u16.wrap ((IntKind.u64.wrap (a0))/4294967296))] from rfl) (Reps.one (show Kd.M (Kd.int .u16) _ _ _ (IntKind.u16.wrap ((IntKind.u64.wrap (a0))/281474976710656)) [.int .u16 (IntKind.u16.wrap ((IntKind.u64.wrap (a0))/281474976710656))] from rfl) (Reps.none _ _))))));intro aQ w13 ap hb hg_ hnew_;clear hg_ hnew_;(first|rw[←au.out]at ap|(simp only[Int.reduceToNat]at ap;rw[←au.out]at ap));have ad:=Aside0.mk (Kd.R_lower (Kd.R_newM (M:=fun k_=>(w.heap.size≤k_)) ap (below_size (khu HB.out)) (fun k_ h_=>h_)) (below_size (khu HB.out)));replace aa:=kbb aa hb;replace HB:=kbs HB hb;clear hb ap;obtain⟨Ao15,co15,aE⟩:=Kd.R_slice ad.out;subst aE)|((with_reducible refine gate_callee (f:=84) rfl ?_);refine kgl (some 24) rfl rfl Tryz.func84 #[.bool false,.slice Ao15 am.length co15] rfl ?_;(with_reducible refine(tribunalref02_Make.calls k false (fun k_=>some k_=(.slice Ao15 am.length co15:Value).ownBlock) _ _ am aj an _ ?side1 A11.out).mono ?_);(case side1=>exact Kd.R_V (Kd.R_tight rfl (Kd.R_types (ad.out) aa.out J0)));rintro e w16 ⟨aR,rfl,ho0,hb⟩;refine⟨_,rfl,?_⟩;have av:=Aside0.mk (Kd.V_lower (Kd.V_mono (ok':=fun k_=>(w.heap.size≤k_)∧k_≠ab) ho0 (fun k_ hk_=>⟨Or.elim hk_ (fun hs_=>((Kd.R_types (ad.out) aa.out J0).1 k_ hs_.symm).1.1) (fun hn_=>(Nat.le_trans (below_size (khu HB.out)) hn_)),Or.elim hk_ (fun hs_=>((Kd.R_types (ad.out) aa.out J0).1 k_ hs_.symm).2) (kfb aa)⟩)) (below_size (khu HB.out)));replace ad:=krb ad hb;replace aa:=kbb aa hb;replace HB:=kbs HB hb;(try clear hb);(try clear hb2);(try clear hk);(try clear hi);(try clear ho0);have aG:w16.cell? ⟨ab,0,none⟩=some (.bool false):=(blk_cell aa.out 0).trans rfl;have aH:w16.cell? ⟨ab,1,none⟩=some (.slice none 0 0):=(blk_cell aa.out 1).trans rfl;have aI:=blk_frozen aa.out 0;have aJ:=blk_frozen aa.out 1;obtain⟨aA,aB,aF⟩:=Kd.V_slice av.out;subst aF))
 refine bodyPost_ret (results_cell_row rfl _ _ ab 73 #[.bool aj,.slice aA an.length aB] (0,0) _ rfl (kpu #[.bool aj,.slice none 0 0] 1 (kpu #[.bool false,.slice none 0 0] 0 (kbu aa.out))) Tryz.underlying73 rfl X0) rfl ?_
 exact⟨_,B0,by(with_reducible repeat (first|apply Kd.V_alloc|apply Kd.V_drewN|apply Kd.V_drew));exact Kd.V_mono (Kd.V_far (p:=⟨ab,1,none⟩) (Kd.V_far (p:=⟨ab,0,none⟩) (Kd.V_mono av.out (fun k_ hk=>(⟨hk,hk.2⟩:_∧k_≠ab))) (fun _ hk=>hk.2) (.bool aj)) (fun _ hk=>hk.2) (.slice aA an.length aB)) (fun _ hk=>hk.1.1),by repeat (first|(with_reducible first|exact HB.out|apply below_alloc|apply pw_below_drewN|apply below_drew1|refine below_set ?_ ao.out)|exact HB.out)⟩
end Go.Proofs.YtncomlmhagaajaaGreatDoor.PRp
