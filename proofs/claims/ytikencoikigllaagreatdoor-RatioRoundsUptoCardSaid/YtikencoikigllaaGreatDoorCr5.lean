/- Part 5 of what the card rests on. -/
import Derived.Laws.Bits64b
import Derived.OpenShut
import Derived.Test.YtikencoikigllaaGreatDoorCr4
set_option maxHeartbeats 8000000
set_option maxRecDepth 100000
set_option linter.unusedVariables false
set_option linter.unusedSimpArgs false
namespace Go.Proofs.YtikencoikigllaaGreatDoor.PRy
open Go.RowKit Go.Proofs.YtikencoikigllaaGreatDoorW.PrintWords Go.Proofs.YtikencoikigllaaGreatDoorW.PrintLast Go.Proofs.YtikencoikigllaaGreatDoorW.PrintMore
open Go.Proofs.YtikencoikigllaaGreatDoor.Mine
attribute [local go_sem] max2_int min2_int max_two min_two max_three min_three max_four min_four
def tribunallaw03_alive.f (k:Nat):Option (Bool):=(tribunallaw03_small.f k 1 2).bind fun bt1179=>((tribunallaw03_small.f k 1 3).bind fun bt1186=>((tribunallaw03_small.f k 2 12).bind fun bt1193=>((ratio_Add.f k (([(⟨(⟨bt1179.1,bt1179.2.1⟩:S26),bt1179.2.2⟩:S39),(⟨(⟨bt1186.1,bt1186.2.1⟩:S26),bt1186.2.2⟩:S39),(⟨(⟨bt1193.1,bt1193.2.1⟩:S26),bt1193.2.2⟩:S39)]:List (S39)))).bind fun bt1203=>((tribunallaw03_small.f k (-6) 4).bind fun bt1212=>((ratio_Text.f k bt1212.1 bt1212.2.1 bt1212.2.2).bind fun bt1219=>(if bt1203.2.2.2=0 then(if bt1219.2=0 then((tribunalref03_Same.f k bt1203.1 bt1203.2.1 bt1203.2.2.1 false (([1]:List Int)) (([1]:List Int))).bind fun t1227=>(if t1227=true then(some (bt1219.1.toList==([45,51,47,50]:List UInt8))) else(none))) else(none)) else(none)))))))
theorem tribunallaw03_alive.calls (k:Nat) (r:Bool) (w:World) (h:tribunallaw03_alive.f k=some r) :
  Calls Tryz.prog 22 #[] w fun e w'=>e=.returned (.bool r)∧Below w.heap.size w w':=by
 have hu39:=Tryz.underlying39
 have hu26:=Tryz.underlying26
 have HB:=Aside0.mk (Below.refl w.heap.size w)
 have H:((tribunallaw03_small.f k 1 2).bind fun bt1179=>((tribunallaw03_small.f k 1 3).bind fun bt1186=>((tribunallaw03_small.f k 2 12).bind fun bt1193=>((ratio_Add.f k (([(⟨(⟨bt1179.1,bt1179.2.1⟩:S26),bt1179.2.2⟩:S39),(⟨(⟨bt1186.1,bt1186.2.1⟩:S26),bt1186.2.2⟩:S39),(⟨(⟨bt1193.1,bt1193.2.1⟩:S26),bt1193.2.2⟩:S39)]:List (S39)))).bind fun bt1203=>((tribunallaw03_small.f k (-6) 4).bind fun bt1212=>((ratio_Text.f k bt1212.1 bt1212.2.1 bt1212.2.2).bind fun bt1219=>(if bt1203.2.2.2=0 then(if bt1219.2=0 then((tribunalref03_Same.f k bt1203.1 bt1203.2.1 bt1203.2.2.1 false (([1]:List Int)) (([1]:List Int))).bind fun t1227=>(if t1227=true then(some (bt1219.1.toList==([45,51,47,50]:List UInt8))) else(none))) else(none)) else(none))))))))=some r:=h
 clear h
 replace H:=Option.bind_eq_some_iff.mp H
 obtain⟨⟨t1179,t1180,t1183⟩,A10,H⟩:=H
 replace H:((tribunallaw03_small.f k 1 3).bind fun bt1186=>((tribunallaw03_small.f k 2 12).bind fun bt1193=>((ratio_Add.f k (([(⟨(⟨t1179,t1180⟩:S26),t1183⟩:S39),(⟨(⟨bt1186.1,bt1186.2.1⟩:S26),bt1186.2.2⟩:S39),(⟨(⟨bt1193.1,bt1193.2.1⟩:S26),bt1193.2.2⟩:S39)]:List (S39)))).bind fun bt1203=>((tribunallaw03_small.f k (-6) 4).bind fun bt1212=>((ratio_Text.f k bt1212.1 bt1212.2.1 bt1212.2.2).bind fun bt1219=>(if bt1203.2.2.2=0 then(if bt1219.2=0 then((tribunalref03_Same.f k bt1203.1 bt1203.2.1 bt1203.2.2.1 false (([1]:List Int)) (([1]:List Int))).bind fun t1227=>(if t1227=true then(some (bt1219.1.toList==([45,51,47,50]:List UInt8))) else(none))) else(none)) else(none)))))))=some r:=H
 have A1:=Aside0.mk A10
 clear A10
 replace H:=Option.bind_eq_some_iff.mp H
 obtain⟨⟨t1186,t1187,t1190⟩,A20,H⟩:=H
 replace H:((tribunallaw03_small.f k 2 12).bind fun bt1193=>((ratio_Add.f k (([(⟨(⟨t1179,t1180⟩:S26),t1183⟩:S39),(⟨(⟨t1186,t1187⟩:S26),t1190⟩:S39),(⟨(⟨bt1193.1,bt1193.2.1⟩:S26),bt1193.2.2⟩:S39)]:List (S39)))).bind fun bt1203=>((tribunallaw03_small.f k (-6) 4).bind fun bt1212=>((ratio_Text.f k bt1212.1 bt1212.2.1 bt1212.2.2).bind fun bt1219=>(if bt1203.2.2.2=0 then(if bt1219.2=0 then((tribunalref03_Same.f k bt1203.1 bt1203.2.1 bt1203.2.2.1 false (([1]:List Int)) (([1]:List Int))).bind fun t1227=>(if t1227=true then(some (bt1219.1.toList==([45,51,47,50]:List UInt8))) else(none))) else(none)) else(none))))))=some r:=H
 have A2:=Aside0.mk A20
 clear A20
 replace H:=Option.bind_eq_some_iff.mp H
 obtain⟨⟨t1193,t1194,t1197⟩,A30,H⟩:=H
 replace H:((ratio_Add.f k (([(⟨(⟨t1179,t1180⟩:S26),t1183⟩:S39),(⟨(⟨t1186,t1187⟩:S26),t1190⟩:S39),(⟨(⟨t1193,t1194⟩:S26),t1197⟩:S39)]:List (S39)))).bind fun bt1203=>((tribunallaw03_small.f k (-6) 4).bind fun bt1212=>((ratio_Text.f k bt1212.1 bt1212.2.1 bt1212.2.2).bind fun bt1219=>(if bt1203.2.2.2=0 then(if bt1219.2=0 then((tribunalref03_Same.f k bt1203.1 bt1203.2.1 bt1203.2.2.1 false (([1]:List Int)) (([1]:List Int))).bind fun t1227=>(if t1227=true then(some (bt1219.1.toList==([45,51,47,50]:List UInt8))) else(none))) else(none)) else(none)))))=some r:=H
 have A3:=Aside0.mk A30
 clear A30
 obtain⟨y1200,hy1200⟩:∃y_:List (S39),y_=(([(⟨(⟨t1179,t1180⟩:S26),t1183⟩:S39),(⟨(⟨t1186,t1187⟩:S26),t1190⟩:S39),(⟨(⟨t1193,t1194⟩:S26),t1197⟩:S39)]:List (S39))):=⟨_,rfl⟩
 replace H:((ratio_Add.f k y1200).bind fun bt1203=>((tribunallaw03_small.f k (-6) 4).bind fun bt1212=>((ratio_Text.f k bt1212.1 bt1212.2.1 bt1212.2.2).bind fun bt1219=>(if bt1203.2.2.2=0 then(if bt1219.2=0 then((tribunalref03_Same.f k bt1203.1 bt1203.2.1 bt1203.2.2.1 false (([1]:List Int)) (([1]:List Int))).bind fun t1227=>(if t1227=true then(some (bt1219.1.toList==([45,51,47,50]:List UInt8))) else(none))) else(none)) else(none)))))=some r:=by first|(rw[hy1200];with_reducible exact H)|(have H2_:=(Option.bind_some _ _).symm.trans H;rw[hy1200];with_reducible exact H2_)|(have H2_:=(Option.bind_some _ _).symm.trans H;with_reducible exact H2_)|with_reducible exact H|(rw[hy1200];exact H)|exact H
 have Ny1200:=Aside0.mk hy1200
 clear hy1200
 replace H:=Option.bind_eq_some_iff.mp H
 obtain⟨⟨t1203,t1204,t1207,t1210⟩,A40,H⟩:=H
 replace H:((tribunallaw03_small.f k (-6) 4).bind fun bt1212=>((ratio_Text.f k bt1212.1 bt1212.2.1 bt1212.2.2).bind fun bt1219=>(if t1210=0 then(if bt1219.2=0 then((tribunalref03_Same.f k t1203 t1204 t1207 false (([1]:List Int)) (([1]:List Int))).bind fun t1227=>(if t1227=true then(some (bt1219.1.toList==([45,51,47,50]:List UInt8))) else(none))) else(none)) else(none))))=some r:=H
 have A4:=Aside0.mk A40
 clear A40
 replace H:=Option.bind_eq_some_iff.mp H
 obtain⟨⟨t1212,t1213,t1216⟩,A50,H⟩:=H
 replace H:((ratio_Text.f k t1212 t1213 t1216).bind fun bt1219=>(if t1210=0 then(if bt1219.2=0 then((tribunalref03_Same.f k t1203 t1204 t1207 false (([1]:List Int)) (([1]:List Int))).bind fun t1227=>(if t1227=true then(some (bt1219.1.toList==([45,51,47,50]:List UInt8))) else(none))) else(none)) else(none)))=some r:=H
 have A5:=Aside0.mk A50
 clear A50
 replace H:=Option.bind_eq_some_iff.mp H
 obtain⟨⟨t1219,t1220⟩,A60,H⟩:=H
 replace H:(if t1210=0 then(if t1220=0 then((tribunalref03_Same.f k t1203 t1204 t1207 false (([1]:List Int)) (([1]:List Int))).bind fun t1227=>(if t1227=true then(some (t1219.toList==([45,51,47,50]:List UInt8))) else(none))) else(none)) else(none))=some r:=H
 have A6:=Aside0.mk A60
 clear A60
 by_cases c7:t1210=0
 ·rw[if_pos c7]at H
  have c7b0:(t1210==0)=true:=beq_iff_eq.mpr c7
  have c7b1:(t1210 != 0)=false:=bne_eq_false_iff_eq.mpr c7
  clear c7
  by_cases c8:t1220=0
  ·rw[if_pos c8]at H
   have c8b0:(t1220==0)=true:=beq_iff_eq.mpr c8
   have c8b1:(t1220 != 0)=false:=bne_eq_false_iff_eq.mpr c8
   clear c8
   obtain⟨y1221,hy1221⟩:∃y_:List Int,y_=(([1]:List Int)):=⟨_,rfl⟩
   replace H:((tribunalref03_Same.f k t1203 t1204 t1207 false y1221 (([1]:List Int))).bind fun t1227=>(if t1227=true then(some (t1219.toList==([45,51,47,50]:List UInt8))) else(none)))=some r:=by first|(rw[hy1221];with_reducible exact H)|(have H2_:=(Option.bind_some _ _).symm.trans H;rw[hy1221];with_reducible exact H2_)|(have H2_:=(Option.bind_some _ _).symm.trans H;with_reducible exact H2_)|with_reducible exact H|(rw[hy1221];exact H)|exact H
   have Ny1221:=Aside0.mk hy1221
   clear hy1221
   obtain⟨y1224,hy1224⟩:∃y_:List Int,y_=(([1]:List Int)):=⟨_,rfl⟩
   replace H:((tribunalref03_Same.f k t1203 t1204 t1207 false y1221 y1224).bind fun t1227=>(if t1227=true then(some (t1219.toList==([45,51,47,50]:List UInt8))) else(none)))=some r:=by first|(rw[hy1224];with_reducible exact H)|(have H2_:=(Option.bind_some _ _).symm.trans H;rw[hy1224];with_reducible exact H2_)|(have H2_:=(Option.bind_some _ _).symm.trans H;with_reducible exact H2_)|with_reducible exact H|(rw[hy1224];exact H)|exact H
   have Ny1224:=Aside0.mk hy1224
   clear hy1224
   replace H:=Option.bind_eq_some_iff.mp H
   obtain⟨t1227,A90,H⟩:=H
   replace H:(if t1227=true then(some (t1219.toList==([45,51,47,50]:List UInt8))) else(none))=some r:=H
   have A9:=Aside0.mk A90
   clear A90
   by_cases c10:t1227=true
   ·subst c10
    have H1:(some (t1219.toList==([45,51,47,50]:List UInt8)))=some r:=by rw[if_pos rfl]at H;exact H
    clear H
    have H:=H1
    clear H1
    obtain rfl:=Option.some.inj H
    go_enter Tryz.func22,Tryz.ntmps22
    go_wp2_with (first|((with_reducible refine gate_callee (f:=71) rfl ?_);refine kgl (some 6) rfl rfl Tryz.func71 #[.int .i64 1,.int .u64 2] rfl ?_;(with_reducible refine(tribunallaw03_small.calls k 1 2 t1179 t1180 t1183 _ A1.out).mono ?_);rintro e w11 ⟨v1181,v1184,rfl,ho0,ho1,hb⟩;refine⟨_,rfl,?_⟩;have HO1182:=Aside0.mk (Kd.R_lower ho0 (below_size (khu HB.out)));have HO1185:=Aside0.mk (Kd.R_lower ho1 (below_size (khu HB.out)));replace HB:=kbs HB hb;(try clear hb);(try clear hb2);(try clear hk);(try clear hi);(try clear ho0);(try clear ho1))|((with_reducible refine gate_callee (f:=71) rfl ?_);refine kgl (some 7) rfl rfl Tryz.func71 #[.int .i64 1,.int .u64 3] rfl ?_;(with_reducible refine(tribunallaw03_small.calls k 1 3 t1186 t1187 t1190 _ A2.out).mono ?_);rintro e w12 ⟨v1188,v1191,rfl,ho0,ho1,hb⟩;refine⟨_,rfl,?_⟩;have HO1189:=Aside0.mk (Kd.R_lower (Kd.R_new' (Kd.R_new' ho0 (Kd.R_lt (kru HO1182.out))) (Kd.R_lt (kru HO1185.out))) (below_size (khu HB.out)));have HO1192:=Aside0.mk (Kd.R_lower (Kd.R_new' (Kd.R_new' ho1 (Kd.R_lt (kru HO1182.out))) (Kd.R_lt (kru HO1185.out))) (below_size (khu HB.out)));replace HO1182:=Aside0.mk (Kd.R_mono (Kd.R_told (Kd.R_told (Kd.R_old (kru HO1182.out) hb) (Kd.R_base ho0)) (Kd.R_base ho1)) (fun _ h_=>h_.1));replace HO1185:=Aside0.mk (Kd.R_mono (Kd.R_told (Kd.R_told (Kd.R_old (kru HO1185.out) hb) (Kd.R_base ho0)) (Kd.R_base ho1)) (fun _ h_=>h_.1));replace HB:=kbs HB hb;(try clear hb);(try clear hb2);(try clear hk);(try clear hi);(try clear ho0);(try clear ho1))|((with_reducible refine gate_callee (f:=71) rfl ?_);refine kgl (some 8) rfl rfl Tryz.func71 #[.int .i64 2,.int .u64 12] rfl ?_;(with_reducible refine(tribunallaw03_small.calls k 2 12 t1193 t1194 t1197 _ A3.out).mono ?_);rintro e w13 ⟨v1195,v1198,rfl,ho0,ho1,hb⟩;refine⟨_,rfl,?_⟩;have HO1196:=Aside0.mk (Kd.R_lower (Kd.R_new' (Kd.R_new' (Kd.R_new' (Kd.R_new' ho0 (Kd.R_lt (kru HO1182.out))) (Kd.R_lt (kru HO1185.out))) (Kd.R_lt (kru HO1189.out))) (Kd.R_lt (kru HO1192.out))) (below_size (khu HB.out)));have HO1199:=Aside0.mk (Kd.R_lower (Kd.R_new' (Kd.R_new' (Kd.R_new' (Kd.R_new' ho1 (Kd.R_lt (kru HO1182.out))) (Kd.R_lt (kru HO1185.out))) (Kd.R_lt (kru HO1189.out))) (Kd.R_lt (kru HO1192.out))) (below_size (khu HB.out)));replace HO1182:=Aside0.mk (Kd.R_mono (Kd.R_told (Kd.R_told (Kd.R_old (kru HO1182.out) hb) (Kd.R_base ho0)) (Kd.R_base ho1)) (fun _ h_=>h_.1));replace HO1185:=Aside0.mk (Kd.R_mono (Kd.R_told (Kd.R_told (Kd.R_old (kru HO1185.out) hb) (Kd.R_base ho0)) (Kd.R_base ho1)) (fun _ h_=>h_.1));replace HO1189:=Aside0.mk (Kd.R_mono (Kd.R_told (Kd.R_told (Kd.R_old (kru HO1189.out) hb) (Kd.R_base ho0)) (Kd.R_base ho1)) (fun _ h_=>h_.1));replace HO1192:=Aside0.mk (Kd.R_mono (Kd.R_told (Kd.R_told (Kd.R_old (kru HO1192.out) hb) (Kd.R_base ho0)) (Kd.R_base ho1)) (fun _ h_=>h_.1));replace HB:=kbs HB hb;(try clear hb);(try clear hb2);(try clear hk);(try clear hi);(try clear ho0);(try clear ho1);obtain⟨Ao14,co14,eo14⟩:=Kd.R_slice HO1182.out;subst eo14;obtain⟨Ao15,co15,eo15⟩:=Kd.R_slice HO1185.out;subst eo15;obtain⟨Ao16,co16,eo16⟩:=Kd.R_slice HO1189.out;subst eo16;obtain⟨Ao17,co17,eo17⟩:=Kd.R_slice HO1192.out;subst eo17;obtain⟨Ao18,co18,eo18⟩:=Kd.R_slice HO1196.out;subst eo18;obtain⟨Ao19,co19,eo19⟩:=Kd.R_slice HO1199.out;subst eo19)|(refine gd 9 rfl ?_;(try(refine gate_guard (by rfl) ?_;dsimp only));refine Kd.N_lit k39 _ 39 ?hg (N':=9) ?hd (xs:=([(⟨(⟨t1179,t1180⟩:S26),t1183⟩:S39),(⟨(⟨t1186,t1187⟩:S26),t1190⟩:S39),(⟨(⟨t1193,t1194⟩:S26),t1197⟩:S39)]:List (S39))) (inner:=[.bool t1179,.slice Ao14 t1180.length co14,.slice Ao15 t1183.length co15,.bool t1186,.slice Ao16 t1187.length co16,.slice Ao17 t1190.length co17,.bool t1193,.slice Ao18 t1194.length co18,.slice Ao19 t1197.length co19]) (ok:=(fun _=>True)) (okp:=(fun _=>True)) ?hr ?hp (fun _ hk=>hk) ((show ∀k_,w13.heap.size≤k_→(fun _=>True) k_ from fun k_ hk=>trivial) _ (Nat.le_refl _)) (Below.refl _ _) (Nat.le_refl _) (by simp) ?_;(case hd=>rfl);(case hg=>rfl);(case hr=>first|(go_simp;done)|(go_simp;rfl));(case hp=>exact(Reps.c3 (show Kd.FK k39 _ _ (⟨(⟨t1179,t1180⟩:S26),t1183⟩:S39) [.bool t1179,.slice Ao14 t1180.length co14,.slice Ao15 t1183.length co15] from(k39_mkF _ _ (⟨(⟨t1179,t1180⟩:S26),t1183⟩:S39) (Kd.R_reads' (Kd.R_mono (ok':=(fun _=>True)) (HO1182.out) (fun k_ hk=>trivial))).2.1 (Kd.R_F (Kd.R_mono (ok':=(fun _=>True)) (HO1182.out) (fun k_ hk=>trivial))) (Kd.R_reads' (Kd.R_mono (ok':=(fun _=>True)) (HO1185.out) (fun k_ hk=>trivial))).2.1 (Kd.R_F (Kd.R_mono (ok':=(fun _=>True)) (HO1185.out) (fun k_ hk=>trivial))))) (Reps.c3 (show Kd.FK k39 _ _ (⟨(⟨t1186,t1187⟩:S26),t1190⟩:S39) [.bool t1186,.slice Ao16 t1187.length co16,.slice Ao17 t1190.length co17] from(k39_mkF _ _ (⟨(⟨t1186,t1187⟩:S26),t1190⟩:S39) (Kd.R_reads' (Kd.R_mono (ok':=(fun _=>True)) (HO1189.out) (fun k_ hk=>trivial))).2.1 (Kd.R_F (Kd.R_mono (ok':=(fun _=>True)) (HO1189.out) (fun k_ hk=>trivial))) (Kd.R_reads' (Kd.R_mono (ok':=(fun _=>True)) (HO1192.out) (fun k_ hk=>trivial))).2.1 (Kd.R_F (Kd.R_mono (ok':=(fun _=>True)) (HO1192.out) (fun k_ hk=>trivial))))) (Reps.c3 (show Kd.FK k39 _ _ (⟨(⟨t1193,t1194⟩:S26),t1197⟩:S39) [.bool t1193,.slice Ao18 t1194.length co18,.slice Ao19 t1197.length co19] from(k39_mkF _ _ (⟨(⟨t1193,t1194⟩:S26),t1197⟩:S39) (Kd.R_reads' (Kd.R_mono (ok':=(fun _=>True)) (HO1196.out) (fun k_ hk=>trivial))).2.1 (Kd.R_F (Kd.R_mono (ok':=(fun _=>True)) (HO1196.out) (fun k_ hk=>trivial))) (Kd.R_reads' (Kd.R_mono (ok':=(fun _=>True)) (HO1199.out) (fun k_ hk=>trivial))).2.1 (Kd.R_F (Kd.R_mono (ok':=(fun _=>True)) (HO1199.out) (fun k_ hk=>trivial))))) (Reps.none _ _)))));intro v1201 w20 ho21 hb hg_ hnew_;clear hg_ hnew_;(first|rw[←Ny1200.out]at ho21|(simp only[Int.reduceToNat]at ho21;rw[←Ny1200.out]at ho21));have HO1202:=Aside0.mk (Kd.N_lower ho21 (below_size (khu HB.out)));replace HB:=kbs HB hb;clear HO1182 HO1185 HO1189 HO1192 HO1196 HO1199;clear hb ho21;obtain⟨Ao22,co22,eo22⟩:=Kd.N_slice HO1202.out;subst eo22)|((with_reducible refine gate_callee (f:=70) rfl ?_);refine kgl (some 10) rfl rfl Tryz.func70 #[.slice Ao22 y1200.length co22] rfl ?_;(with_reducible refine(ratio_Add.calls k _ _ y1200 t1203 t1204 t1207 t1210 _ ?side1 ?side2 A4.out).mono ?_);(case side1=>repeat (first|exact(Kd.N_reads' HO1202.out).2.2|(with_reducible refine Kd.C_alloc ?_ _)|(with_reducible refine Kd.C_drewN ?_ _)|(with_reducible refine Kd.C_drew ?_)));(case side2=>exact(Kd.N_reads' HO1202.out).2.1);rintro e w23 ⟨v1205,v1208,rfl,ho0,ho1,hb⟩;refine⟨_,rfl,?_⟩;replace HO1202:=Aside0.mk (Kd.N_mono (Kd.N_told (Kd.N_told (Kd.N_old (by(with_reducible repeat (first|apply Kd.N_alloc|apply Kd.N_drewN|apply Kd.N_drew));exact HO1202.out) hb) (Kd.R_base ho0)) (Kd.R_base ho1)) (fun _ h_=>h_.1));have HO1206:=Aside0.mk (Kd.R_lower ho0 (below_size (khu HB.out)));have HO1209:=Aside0.mk (Kd.R_lower ho1 (below_size (khu HB.out)));replace HB:=kbs HB hb;(try clear hb);(try clear hb2);(try clear hk);(try clear hi);(try clear ho0);(try clear ho1))|(refine gd 1 rfl ?_;(try(refine gate_guard (by rfl) ?_;dsimp only));refine kbe 1 #[.bool false,.slice none 0 0,.slice none 0 0] 39 ?_;intro gb1211 hg w24 hbox hb;replace HO1202:=Aside0.mk (Kd.N_below (Kd.N_elderB (by(with_reducible repeat (first|apply Kd.N_alloc|apply Kd.N_drewN|apply Kd.N_drew));exact HO1202.out) gb1211 (Nat.le_of_eq hg.symm)) hb);replace HO1206:=krb HO1206 hb;replace HO1209:=krb HO1209 hb;have BK1211:=Aside0.mk (hbox);have GW1211:=kbz hg HB;have GE1211:=kbz hg HB;replace HB:=kbs HB hb;clear hb hbox hg;have hcz25_0:w24.cell? ⟨gb1211,0,none⟩=some (.bool false):=(blk_cell BK1211.out 0).trans rfl;have hcz25_1:w24.cell? ⟨gb1211,1,none⟩=some (.slice none 0 0):=(blk_cell BK1211.out 1).trans rfl;have hcz25_2:w24.cell? ⟨gb1211,2,none⟩=some (.slice none 0 0):=(blk_cell BK1211.out 2).trans rfl;have hfz25_0:=blk_frozen BK1211.out 0;have hfz25_1:=blk_frozen BK1211.out 1;have hfz25_2:=blk_frozen BK1211.out 2;obtain⟨Ao26,co26,eo26⟩:=Kd.R_slice HO1206.out;subst eo26;obtain⟨Ao27,co27,eo27⟩:=Kd.R_slice HO1209.out;subst eo27)|((with_reducible refine gate_callee (f:=71) rfl ?_);refine kgl (some 14) rfl rfl Tryz.func71 #[.int .i64 (-6),.int .u64 4] rfl ?_;(with_reducible refine(tribunallaw03_small.calls k (-6) 4 t1212 t1213 t1216 _ A5.out).mono ?_);rintro e w28 ⟨v1214,v1217,rfl,ho0,ho1,hb⟩;refine⟨_,rfl,?_⟩;replace HO1202:=Aside0.mk (Kd.N_mono (Kd.N_told (Kd.N_told (Kd.N_old (by(with_reducible repeat (first|apply Kd.N_alloc|apply Kd.N_drewN|apply Kd.N_drew));exact(Kd.N_mono (Kd.N_far (p:=⟨gb1211,2,none⟩) (Kd.N_far (p:=⟨gb1211,1,none⟩) (Kd.N_far (p:=⟨gb1211,0,none⟩) (Kd.N_mono HO1202.out (fun k_ hk=>(⟨hk,hk.2⟩:_∧k_≠gb1211))) (fun _ hk=>hk.2) (.bool t1203)) (fun _ hk=>hk.2) (.slice Ao26 t1204.length co26)) (fun _ hk=>hk.2) (.slice Ao27 t1207.length co27)) (fun _ h_=>h_.1))) hb) (Kd.R_base ho0)) (Kd.R_base ho1)) (fun _ h_=>h_.1));have HO1215:=Aside0.mk (Kd.R_lower (Kd.R_new' (Kd.R_new' ho0 (Kd.R_lt (by(with_reducible repeat (first|apply Kd.R_alloc|apply Kd.R_drewN|apply Kd.R_drew));exact(Kd.R_mono (Kd.R_far (p:=⟨gb1211,2,none⟩) (Kd.R_far (p:=⟨gb1211,1,none⟩) (Kd.R_far (p:=⟨gb1211,0,none⟩) (Kd.R_types HO1206.out BK1211.out (by decide)) (fun _ hk=>hk.2) (.bool t1203)) (fun _ hk=>hk.2) (.slice Ao26 t1204.length co26)) (fun _ hk=>hk.2) (.slice Ao27 t1207.length co27)) (fun _ h_=>h_.1))))) (Kd.R_lt (by(with_reducible repeat (first|apply Kd.R_alloc|apply Kd.R_drewN|apply Kd.R_drew));exact(Kd.R_mono (Kd.R_far (p:=⟨gb1211,2,none⟩) (Kd.R_far (p:=⟨gb1211,1,none⟩) (Kd.R_far (p:=⟨gb1211,0,none⟩) (Kd.R_types HO1209.out BK1211.out (by decide)) (fun _ hk=>hk.2) (.bool t1203)) (fun _ hk=>hk.2) (.slice Ao26 t1204.length co26)) (fun _ hk=>hk.2) (.slice Ao27 t1207.length co27)) (fun _ h_=>h_.1))))) (below_size (by repeat (first|(with_reducible first|exact HB.out|apply below_alloc|apply pw_below_drewN|apply below_drew1|refine below_set ?_ GE1211.out)|exact HB.out))));have HO1218:=Aside0.mk (Kd.R_lower (Kd.R_new' (Kd.R_new' ho1 (Kd.R_lt (by(with_reducible repeat (first|apply Kd.R_alloc|apply Kd.R_drewN|apply Kd.R_drew));exact(Kd.R_mono (Kd.R_far (p:=⟨gb1211,2,none⟩) (Kd.R_far (p:=⟨gb1211,1,none⟩) (Kd.R_far (p:=⟨gb1211,0,none⟩) (Kd.R_types HO1206.out BK1211.out (by decide)) (fun _ hk=>hk.2) (.bool t1203)) (fun _ hk=>hk.2) (.slice Ao26 t1204.length co26)) (fun _ hk=>hk.2) (.slice Ao27 t1207.length co27)) (fun _ h_=>h_.1))))) (Kd.R_lt (by(with_reducible repeat (first|apply Kd.R_alloc|apply Kd.R_drewN|apply Kd.R_drew));exact(Kd.R_mono (Kd.R_far (p:=⟨gb1211,2,none⟩) (Kd.R_far (p:=⟨gb1211,1,none⟩) (Kd.R_far (p:=⟨gb1211,0,none⟩) (Kd.R_types HO1209.out BK1211.out (by decide)) (fun _ hk=>hk.2) (.bool t1203)) (fun _ hk=>hk.2) (.slice Ao26 t1204.length co26)) (fun _ hk=>hk.2) (.slice Ao27 t1207.length co27)) (fun _ h_=>h_.1))))) (below_size (by repeat (first|(with_reducible first|exact HB.out|apply below_alloc|apply pw_below_drewN|apply below_drew1|refine below_set ?_ GE1211.out)|exact HB.out))));replace HO1206:=Aside0.mk (Kd.R_mono (Kd.R_told (Kd.R_told (Kd.R_old (by(with_reducible repeat (first|apply Kd.R_alloc|apply Kd.R_drewN|apply Kd.R_drew));exact(Kd.R_mono (Kd.R_far (p:=⟨gb1211,2,none⟩) (Kd.R_far (p:=⟨gb1211,1,none⟩) (Kd.R_far (p:=⟨gb1211,0,none⟩) (Kd.R_types HO1206.out BK1211.out (by decide)) (fun _ hk=>hk.2) (.bool t1203)) (fun _ hk=>hk.2) (.slice Ao26 t1204.length co26)) (fun _ hk=>hk.2) (.slice Ao27 t1207.length co27)) (fun _ h_=>h_.1))) hb) (Kd.R_base ho0)) (Kd.R_base ho1)) (fun _ h_=>h_.1));replace HO1209:=Aside0.mk (Kd.R_mono (Kd.R_told (Kd.R_told (Kd.R_old (by(with_reducible repeat (first|apply Kd.R_alloc|apply Kd.R_drewN|apply Kd.R_drew));exact(Kd.R_mono (Kd.R_far (p:=⟨gb1211,2,none⟩) (Kd.R_far (p:=⟨gb1211,1,none⟩) (Kd.R_far (p:=⟨gb1211,0,none⟩) (Kd.R_types HO1209.out BK1211.out (by decide)) (fun _ hk=>hk.2) (.bool t1203)) (fun _ hk=>hk.2) (.slice Ao26 t1204.length co26)) (fun _ hk=>hk.2) (.slice Ao27 t1207.length co27)) (fun _ h_=>h_.1))) hb) (Kd.R_base ho0)) (Kd.R_base ho1)) (fun _ h_=>h_.1));replace BK1211:=Aside0.mk (blk_below (g:=gb1211) (o:=.cells #[.bool t1203,.slice Ao26 t1204.length co26,.slice Ao27 t1207.length co27] 39 (0,0)) (kpu #[.bool t1203,.slice Ao26 t1204.length co26,.slice none 0 0] 2 (kpu #[.bool t1203,.slice none 0 0,.slice none 0 0] 1 (kpu #[.bool false,.slice none 0 0,.slice none 0 0] 0 (kbu BK1211.out)))) hb);replace HB:=Aside0.mk (below_step (by repeat (first|(with_reducible first|exact HB.out|apply below_alloc|apply pw_below_drewN|apply below_drew1|refine below_set ?_ GE1211.out)|exact HB.out)) hb);(try clear hb);(try clear hb2);(try clear hk);(try clear hi);(try clear ho0);(try clear ho1);obtain⟨Ao29,co29,eo29⟩:=Kd.R_slice HO1215.out;subst eo29;obtain⟨Ao30,co30,eo30⟩:=Kd.R_slice HO1218.out;subst eo30)|((with_reducible refine gate_callee (f:=32) rfl ?_);refine kgl (some 15) rfl rfl Tryz.func32 #[.agg #[.bool t1212,.slice Ao29 t1213.length co29,.slice Ao30 t1216.length co30]] rfl ?_;(with_reducible refine(ratio_Text.calls k t1212 _ _ t1213 _ _ t1216 t1219 t1220 _ ?side1 ?side2 ?side3 ?side4 A6.out).mono ?_);(case side1=>repeat (first|exact(Kd.R_reads' HO1215.out).2.2|(with_reducible refine Kd.C_alloc ?_ _)|(with_reducible refine Kd.C_drewN ?_ _)|(with_reducible refine Kd.C_drew ?_)));(case side2=>exact(Kd.R_reads' HO1215.out).2.1);(case side3=>repeat (first|exact(Kd.R_reads' HO1218.out).2.2|(with_reducible refine Kd.C_alloc ?_ _)|(with_reducible refine Kd.C_drewN ?_ _)|(with_reducible refine Kd.C_drew ?_)));(case side4=>exact(Kd.R_reads' HO1218.out).2.1);rintro e w31 ⟨rfl,hb⟩;refine⟨_,rfl,?_⟩;replace HO1202:=Aside0.mk (Kd.N_below (by(with_reducible repeat (first|apply Kd.N_alloc|apply Kd.N_drewN|apply Kd.N_drew));exact HO1202.out) hb);replace HO1206:=krb HO1206 hb;replace HO1209:=krb HO1209 hb;replace HO1215:=krb HO1215 hb;replace HO1218:=krb HO1218 hb;replace BK1211:=kbb BK1211 hb;replace HB:=kbs HB hb;(try clear hb);(try clear hb2);(try clear hk);(try clear hi);have hcz32_0:w31.cell? ⟨gb1211,0,none⟩=some (.bool t1203):=(blk_cell BK1211.out 0).trans rfl;have hcz32_1:w31.cell? ⟨gb1211,1,none⟩=some (.slice Ao26 t1204.length co26):=(blk_cell BK1211.out 1).trans rfl;have hcz32_2:w31.cell? ⟨gb1211,2,none⟩=some (.slice Ao27 t1207.length co27):=(blk_cell BK1211.out 2).trans rfl;have hfz32_0:=blk_frozen BK1211.out 0;have hfz32_1:=blk_frozen BK1211.out 1;have hfz32_2:=blk_frozen BK1211.out 2)|(refine gd 26 rfl ?_;(try(refine gate_guard (by rfl) ?_;dsimp only));refine Kd.R_lit (Kd.int .u64) _ 72 ?hg (N:=26) ?hd (xs:=([1]:List Int)) (inner:=[.int .u64 1]) (ok:=fun _=>True) (okp:=fun _=>True) ?hr ?hp (fun _ hk=>hk) trivial (Below.refl _ _) (Nat.le_refl _) (by simp) ?_;(case hd=>rfl);(case hg=>rfl);(case hr=>first|(go_simp;done)|(go_simp;rfl));(case hp=>exact(Reps.one (show Kd.M (Kd.int .u64) _ _ _ 1 [.int .u64 1] from rfl) (Reps.none _ _)));intro v1222 w33 ho34 hb hg_ hnew_;clear hg_ hnew_;(first|rw[←Ny1221.out]at ho34|(simp only[Int.reduceToNat]at ho34;rw[←Ny1221.out]at ho34));replace HO1202:=Aside0.mk (Kd.N_elder' (by(with_reducible repeat (first|apply Kd.N_alloc|apply Kd.N_drewN|apply Kd.N_drew));exact HO1202.out) (Kd.R_base ho34) hb);have HO1223:=Aside0.mk (Kd.R_lower (Kd.R_new' (Kd.R_new' (Kd.R_new' (Kd.R_new' ho34 (Kd.R_lt (kru HO1206.out))) (Kd.R_lt (kru HO1209.out))) (Kd.R_lt (kru HO1215.out))) (Kd.R_lt (kru HO1218.out))) (below_size (khu HB.out)));replace HO1206:=Aside0.mk (Kd.R_elder' (kru HO1206.out) (Kd.R_base ho34) hb);replace HO1209:=Aside0.mk (Kd.R_elder' (kru HO1209.out) (Kd.R_base ho34) hb);replace HO1215:=Aside0.mk (Kd.R_elder' (kru HO1215.out) (Kd.R_base ho34) hb);replace HO1218:=Aside0.mk (Kd.R_elder' (kru HO1218.out) (Kd.R_base ho34) hb);replace BK1211:=kbb BK1211 hb;replace HB:=kbs HB hb;clear hb ho34;obtain⟨Ao35,co35,eo35⟩:=Kd.R_slice HO1223.out;subst eo35)|(refine gd 28 rfl ?_;(try(refine gate_guard (by rfl) ?_;dsimp only));refine Kd.R_lit (Kd.int .u64) _ 72 ?hg (N:=28) ?hd (xs:=([1]:List Int)) (inner:=[.int .u64 1]) (ok:=fun _=>True) (okp:=fun _=>True) ?hr ?hp (fun _ hk=>hk) trivial (Below.refl _ _) (Nat.le_refl _) (by simp) ?_;(case hd=>rfl);(case hg=>rfl);(case hr=>first|(go_simp;done)|(go_simp;rfl));(case hp=>exact(Reps.one (show Kd.M (Kd.int .u64) _ _ _ 1 [.int .u64 1] from rfl) (Reps.none _ _)));intro v1225 w36 ho37 hb hg_ hnew_;clear hg_ hnew_;(first|rw[←Ny1224.out]at ho37|(simp only[Int.reduceToNat]at ho37;rw[←Ny1224.out]at ho37));replace HO1202:=Aside0.mk (Kd.N_elder' (by(with_reducible repeat (first|apply Kd.N_alloc|apply Kd.N_drewN|apply Kd.N_drew));exact HO1202.out) (Kd.R_base ho37) hb);have HO1226:=Aside0.mk (Kd.R_lower (Kd.R_new' (Kd.R_new' (Kd.R_new' (Kd.R_new' (Kd.R_new' ho37 (Kd.R_lt (kru HO1206.out))) (Kd.R_lt (kru HO1209.out))) (Kd.R_lt (kru HO1215.out))) (Kd.R_lt (kru HO1218.out))) (Kd.R_lt (kru HO1223.out))) (below_size (khu HB.out)));replace HO1206:=Aside0.mk (Kd.R_elder' (kru HO1206.out) (Kd.R_base ho37) hb);replace HO1209:=Aside0.mk (Kd.R_elder' (kru HO1209.out) (Kd.R_base ho37) hb);replace HO1215:=Aside0.mk (Kd.R_elder' (kru HO1215.out) (Kd.R_base ho37) hb);replace HO1218:=Aside0.mk (Kd.R_elder' (kru HO1218.out) (Kd.R_base ho37) hb);replace HO1223:=Aside0.mk (Kd.R_elder' (kru HO1223.out) (Kd.R_base ho37) hb);replace BK1211:=kbb BK1211 hb;replace HB:=kbs HB hb;clear hb ho37;obtain⟨Ao38,co38,eo38⟩:=Kd.R_slice HO1226.out;subst eo38)|(go_at_call 27;(with_reducible refine(tribunalref03_Same.calls k t1203 _ _ t1204 _ _ t1207 false _ _ y1221 _ _ y1224 true _ ?side1 ?side2 ?side3 ?side4 ?side5 ?side6 ?side7 ?side8 A9.out).mono ?_);(case side1=>repeat (first|exact(Kd.R_reads' HO1206.out).2.2|(with_reducible refine Kd.C_alloc ?_ _)|(with_reducible refine Kd.C_drewN ?_ _)|(with_reducible refine Kd.C_drew ?_)));(case side2=>exact(Kd.R_reads' HO1206.out).2.1);(case side3=>repeat (first|exact(Kd.R_reads' HO1209.out).2.2|(with_reducible refine Kd.C_alloc ?_ _)|(with_reducible refine Kd.C_drewN ?_ _)|(with_reducible refine Kd.C_drew ?_)));(case side4=>exact(Kd.R_reads' HO1209.out).2.1);(case side5=>repeat (first|exact(Kd.R_reads' HO1223.out).2.2|(with_reducible refine Kd.C_alloc ?_ _)|(with_reducible refine Kd.C_drewN ?_ _)|(with_reducible refine Kd.C_drew ?_)));(case side6=>exact(Kd.R_reads' HO1223.out).2.1);(case side7=>repeat (first|exact(Kd.R_reads' HO1226.out).2.2|(with_reducible refine Kd.C_alloc ?_ _)|(with_reducible refine Kd.C_drewN ?_ _)|(with_reducible refine Kd.C_drew ?_)));(case side8=>exact(Kd.R_reads' HO1226.out).2.1);rintro e w39 ⟨rfl,hb⟩;replace HO1202:=Aside0.mk (Kd.N_below (by(with_reducible repeat (first|apply Kd.N_alloc|apply Kd.N_drewN|apply Kd.N_drew));exact HO1202.out) hb);replace HO1206:=krb HO1206 hb;replace HO1209:=krb HO1209 hb;replace HO1215:=krb HO1215 hb;replace HO1218:=krb HO1218 hb;replace HO1223:=krb HO1223 hb;replace HO1226:=krb HO1226 hb;replace BK1211:=kbb BK1211 hb;replace HB:=kbs HB hb;(try clear hb);(try clear hb2);(try clear hk);(try clear hi)))
    go_ret
    exact⟨by first|rfl|(simp[*,errW_none,errW_some]<;>rfl),by repeat (first|(with_reducible first|exact HB.out|apply below_alloc|apply pw_below_drewN|apply below_drew1|refine below_set ?_ GE1211.out)|exact HB.out)⟩
   replace c10:=Bool.eq_false_iff.mpr c10
   subst c10
   have H1:(none)=some r:=by rw[if_neg (show ¬(false=true) by decide)]at H;exact H
   clear H
   have H:=H1
   clear H1
   exact absurd H (by simp)
  rw[if_neg c8]at H
  exact absurd H (by simp)
 rw[if_neg c7]at H
 exact absurd H (by simp)
def tribunallaw03_RatioRounds.f (k:Nat) (a0_0:Bool) (l0_1:List Int) (l0_2:List Int):Option (Bool):=(ratio_Floor.f k a0_0 l0_1 l0_2).bind fun bt1229=>((tribunalref03_Rounded.f k a0_0 l0_1 l0_2 false).bind fun bt1235=>((ratio_Ceil.f k a0_0 l0_1 l0_2).bind fun bt1241=>((tribunalref03_Rounded.f k a0_0 l0_1 l0_2 true).bind fun bt1247=>((ratio_Int.f k a0_0 l0_1 l0_2).bind fun bt1253=>((tribunalref03_Int.f k a0_0 l0_1 l0_2).bind fun bt1259=>((whole_Cmp.f k bt1229.1 bt1229.2.1 bt1235.1 bt1235.2.1).bind fun t1265=>(if t1265=0 then(if bt1229.2.2=bt1235.2.2 then((whole_Cmp.f k bt1241.1 bt1241.2.1 bt1247.1 bt1247.2.1).bind fun t1266=>(if t1266=0 then(if bt1241.2.2=bt1247.2.2 then((whole_Cmp.f k bt1253.1 bt1253.2.1 bt1259.1 bt1259.2.1).bind fun t1267=>(if t1267=0 then(if(bt1253.2.2==bt1259.2.2)=true then((tribunallaw03_alive.f 80).bind fun t1268=>(some t1268)) else(none)) else(none))) else(none)) else(none))) else(none)) else(none))))))))
theorem tribunallaw03_RatioRounds.calls (k:Nat) (a0_0:Bool) (A0_1:Option Addr) (c0_1:Nat) (l0_1:List Int) (A0_2:Option Addr) (c0_2:Nat) (l0_2:List Int) (r:Bool) (w:World) (hr0_1:Kd.C (Kd.int .u64) w A0_1 l0_1.length l0_1) (hc0_1:l0_1.length≤c0_1) (hr0_2:Kd.C (Kd.int .u64) w A0_2 l0_2.length l0_2) (hc0_2:l0_2.length≤c0_2) (h:tribunallaw03_RatioRounds.f k a0_0 l0_1 l0_2=some r) :
  Calls Tryz.prog 5 #[.agg #[.bool a0_0,.slice A0_1 l0_1.length c0_1,.slice A0_2 l0_2.length c0_2]] w fun e w'=>e=.returned (.bool r)∧Below w.heap.size w w':=by
 have hu26:=Tryz.underlying26
 have hu39:=Tryz.underlying39
 have K:=Kp.refl w
 replace K:=K.parV (Kd.V_mono (ok':=fun _=>True) (Kd.V_mk (e:=72) (base:=0) hc0_1 (Kd.C_F (Kd.heap_int .u64) hr0_1)) (fun _ h=>trivial))
 clear hr0_1 hc0_1
 replace K:=K.parV (Kd.V_mono (ok':=fun _=>True) (Kd.V_mk (e:=72) (base:=0) hc0_2 (Kd.C_F (Kd.heap_int .u64) hr0_2)) (fun _ h=>trivial))
 clear hr0_2 hc0_2
 try simp only[klv]at K
 rw[tribunallaw03_RatioRounds.f]at h
 replace h:=bindA h
 obtain⟨⟨z3,x4,n5⟩,A6,h⟩:=h
 dsimp only at h
 replace h:=bindA h
 obtain⟨⟨z17,x18,n19⟩,A20,h⟩:=h
 dsimp only at h
 replace h:=bindA h
 obtain⟨⟨z31,x32,n33⟩,A34,h⟩:=h
 dsimp only at h
 replace h:=bindA h
 obtain⟨⟨z45,x46,n47⟩,A48,h⟩:=h
 dsimp only at h
 replace h:=bindA h
 obtain⟨⟨z59,x60,z61⟩,A62,h⟩:=h
 dsimp only at h
 replace h:=bindA h
 obtain⟨⟨z73,x74,z75⟩,A76,h⟩:=h
 dsimp only at h
 replace h:=bindA h
 obtain⟨n87,A88,h⟩:=h
 by_cases c_0:n87=0
 ·rw [if_pos c_0]at h
  have c_0b0:(n87==0)=true:=beq_iff_eq.mpr c_0
  have c_0b1:(n87 != 0)=false:=bne_eq_false_iff_eq.mpr c_0
  clear c_0
  by_cases c_1:n5=n19
  ·rw [if_pos c_1]at h
   have c_1b0:(n5==n19)=true:=beq_iff_eq.mpr c_1
   have c_1b1:(n5 != n19)=false:=bne_eq_false_iff_eq.mpr c_1
   clear c_1
   replace h:=bindA h
   obtain⟨n90,A91,h⟩:=h
   by_cases c_2:n90=0
   ·rw [if_pos c_2]at h
    have c_2b0:(n90==0)=true:=beq_iff_eq.mpr c_2
    have c_2b1:(n90 != 0)=false:=bne_eq_false_iff_eq.mpr c_2
    clear c_2
    by_cases c_3:n33=n47
    ·rw[if_pos c_3]at h
     have c_3b0:(n33==n47)=true:=beq_iff_eq.mpr c_3
     have c_3b1:(n33 != n47)=false:=bne_eq_false_iff_eq.mpr c_3
     clear c_3
     replace h:=bindA h
     obtain⟨n93,A94,h⟩:=h
     by_cases c_4:n93=0
     ·rw[if_pos c_4]at h
      have c_4b0:(n93==0)=true:=beq_iff_eq.mpr c_4
      have c_4b1:(n93 != 0)=false:=bne_eq_false_iff_eq.mpr c_4
      clear c_4
      by_cases c_5:(z61==z75)=true
      ·rw[if_pos c_5]at h
       have c_5b:decide (z61=z75)=true:=by simpa using c_5
       replace h:=bindA h
       obtain⟨z96,A97,h⟩:=h
       simp only[Option.some.injEq]at h
       subst h
       go_enter Tryz.func5,Tryz.ntmps5
       go_wp2_with (first|((with_reducible refine gd 1 rfl ?_);refine kbk 1 #[.bool a0_0,.slice A0_1 l0_1.length c0_1,.slice A0_2 l0_2.length c0_2] 39 K.u ?_;clear K;intro g1 W2 K;have ua0:=K.cell 0 rfl 0 rfl;have ub0:=K.cell 0 rfl 1 rfl;have uc0:=K.cell 0 rfl 2 rfl)|((with_reducible refine gd 17 rfl ?_);clear ua0 ub0 uc0;refine kgl (some 17) rfl rfl Tryz.func17 #[.agg #[.bool a0_0,.slice A0_1 l0_1.length c0_1,.slice A0_2 l0_2.length c0_2]] rfl ?_;refine(ratio_Floor.calls _ a0_0 _ _ l0_1 _ _ l0_2 z3 x4 n5 _ (K.C 0 rfl) (K.le 0 rfl) (K.C 1 rfl) (K.le 1 rfl) A6.out).mono ?_;rintro e W9 ⟨v7,rfl,ho8,hb⟩;refine⟨_,rfl,?_⟩;replace K:=K.u.addRE hb ho8;clear hb ho8;obtain⟨P10,c11,e12⟩:=K.slice 2 rfl;subst e12)|((with_reducible refine gd 3 rfl ?_);refine kbk 3 #[.bool false,.slice none 0 0] 26 K.u ?_;clear K;intro g13 W14 K)|((with_reducible refine gs 26 3 18 rfl ?_);refine ks2 1 (.bool z3) (.slice P10 x4.length c11) K.u rfl ?_;clear K;intro W15 K;simp only[kls,klv]at K;have ua0:=K.cell 0 rfl 0 rfl;have ub0:=K.cell 0 rfl 1 rfl;have uc0:=K.cell 0 rfl 2 rfl)|((with_reducible refine gd 22 rfl ?_);clear ua0 ub0 uc0;refine kgl (some 22) rfl rfl Tryz.func18 #[.agg #[.bool a0_0,.slice A0_1 l0_1.length c0_1,.slice A0_2 l0_2.length c0_2],.bool false] rfl ?_;refine(tribunalref03_Rounded.calls _ a0_0 _ _ l0_1 _ _ l0_2 false z17 x18 n19 _ (K.C 0 rfl) (K.le 0 rfl) (K.C 1 rfl) (K.le 1 rfl) A20.out).mono ?_;rintro e W23 ⟨v21,rfl,ho22,hb⟩;refine⟨_,rfl,?_⟩;replace K:=K.u.addRE hb ho22;clear hb ho22;obtain⟨P24,c25,e26⟩:=K.slice 3 rfl;subst e26)|((with_reducible refine gd 5 rfl ?_);refine kbk 5 #[.bool false,.slice none 0 0] 26 K.u ?_;clear K;intro g27 W28 K)|((with_reducible refine gs 26 5 23 rfl ?_);refine ks2 2 (.bool z17) (.slice P24 x18.length c25) K.u rfl ?_;clear K;intro W29 K;simp only[kls,klv]at K;have ua0:=K.cell 0 rfl 0 rfl;have ub0:=K.cell 0 rfl 1 rfl;have uc0:=K.cell 0 rfl 2 rfl)|((with_reducible refine gd 27 rfl ?_);clear ua0 ub0 uc0;refine kgl (some 27) rfl rfl Tryz.func19 #[.agg #[.bool a0_0,.slice A0_1 l0_1.length c0_1,.slice A0_2 l0_2.length c0_2]] rfl ?_;refine(ratio_Ceil.calls _ a0_0 _ _ l0_1 _ _ l0_2 z31 x32 n33 _ (K.C 0 rfl) (K.le 0 rfl) (K.C 1 rfl) (K.le 1 rfl) A34.out).mono ?_;rintro e W37 ⟨v35,rfl,ho36,hb⟩;refine⟨_,rfl,?_⟩;replace K:=K.u.addRE hb ho36;clear hb ho36;obtain⟨P38,c39,e40⟩:=K.slice 4 rfl;subst e40)|((with_reducible refine gd 7 rfl ?_);refine kbk 7 #[.bool false,.slice none 0 0] 26 K.u ?_;clear K;intro g41 W42 K)|((with_reducible refine gs 26 7 28 rfl ?_);refine ks2 3 (.bool z31) (.slice P38 x32.length c39) K.u rfl ?_;clear K;intro W43 K;simp only[kls,klv]at K;have ua0:=K.cell 0 rfl 0 rfl;have ub0:=K.cell 0 rfl 1 rfl;have uc0:=K.cell 0 rfl 2 rfl)|((with_reducible refine gd 32 rfl ?_);clear ua0 ub0 uc0;refine kgl (some 32) rfl rfl Tryz.func18 #[.agg #[.bool a0_0,.slice A0_1 l0_1.length c0_1,.slice A0_2 l0_2.length c0_2],.bool true] rfl ?_;refine(tribunalref03_Rounded.calls _ a0_0 _ _ l0_1 _ _ l0_2 true z45 x46 n47 _ (K.C 0 rfl) (K.le 0 rfl) (K.C 1 rfl) (K.le 1 rfl) A48.out).mono ?_;rintro e W51 ⟨v49,rfl,ho50,hb⟩;refine⟨_,rfl,?_⟩;replace K:=K.u.addRE hb ho50;clear hb ho50;obtain⟨P52,c53,e54⟩:=K.slice 5 rfl;subst e54)|((with_reducible refine gd 9 rfl ?_);refine kbk 9 #[.bool false,.slice none 0 0] 26 K.u ?_;clear K;intro g55 W56 K)|((with_reducible refine gs 26 9 33 rfl ?_);refine ks2 4 (.bool z45) (.slice P52 x46.length c53) K.u rfl ?_;clear K;intro W57 K;simp only[kls,klv]at K;have ua0:=K.cell 0 rfl 0 rfl;have ub0:=K.cell 0 rfl 1 rfl;have uc0:=K.cell 0 rfl 2 rfl)|((with_reducible refine gd 37 rfl ?_);clear ua0 ub0 uc0;refine kgl (some 37) rfl rfl Tryz.func20 #[.agg #[.bool a0_0,.slice A0_1 l0_1.length c0_1,.slice A0_2 l0_2.length c0_2]] rfl ?_;refine(ratio_Int.calls _ a0_0 _ _ l0_1 _ _ l0_2 z59 x60 z61 _ (K.C 0 rfl) (K.le 0 rfl) (K.C 1 rfl) (K.le 1 rfl) A62.out).mono ?_;rintro e W65 ⟨v63,rfl,ho64,hb⟩;refine⟨_,rfl,?_⟩;replace K:=K.u.addRE hb ho64;clear hb ho64;obtain⟨P66,c67,e68⟩:=K.slice 6 rfl;subst e68)|((with_reducible refine gd 11 rfl ?_);refine kbk 11 #[.bool false,.slice none 0 0] 26 K.u ?_;clear K;intro g69 W70 K)|((with_reducible refine gs 26 11 38 rfl ?_);refine ks2 5 (.bool z59) (.slice P66 x60.length c67) K.u rfl ?_;clear K;intro W71 K;simp only[kls,klv]at K;have ua0:=K.cell 0 rfl 0 rfl;have ub0:=K.cell 0 rfl 1 rfl;have uc0:=K.cell 0 rfl 2 rfl)|((with_reducible refine gd 42 rfl ?_);clear ua0 ub0 uc0;refine kgl (some 42) rfl rfl Tryz.func21 #[.agg #[.bool a0_0,.slice A0_1 l0_1.length c0_1,.slice A0_2 l0_2.length c0_2]] rfl ?_;refine(tribunalref03_Int.calls _ a0_0 _ _ l0_1 _ _ l0_2 z73 x74 z75 _ (K.C 0 rfl) (K.le 0 rfl) (K.C 1 rfl) (K.le 1 rfl) A76.out).mono ?_;rintro e W79 ⟨v77,rfl,ho78,hb⟩;refine⟨_,rfl,?_⟩;replace K:=K.u.addRE hb ho78;clear hb ho78;obtain⟨P80,c81,e82⟩:=K.slice 7 rfl;subst e82)|((with_reducible refine gd 13 rfl ?_);refine kbk 13 #[.bool false,.slice none 0 0] 26 K.u ?_;clear K;intro g83 W84 K)|((with_reducible refine gs 26 13 43 rfl ?_);refine ks2 6 (.bool z73) (.slice P80 x74.length c81) K.u rfl ?_;clear K;intro W85 K;simp only[kls,klv]at K;obtain⟨ua1,ub1⟩:=K.cell2 1 rfl;obtain⟨ua2,ub2⟩:=K.cell2 2 rfl)|((with_reducible refine gd 47 rfl ?_);clear ua1 ub1 ua2 ub2;refine kgl (some 47) rfl rfl Tryz.func16 #[.agg #[.bool z3,.slice P10 x4.length c11],.agg #[.bool z17,.slice P24 x18.length c25]] rfl ?_;refine(whole_Cmp.calls _ z3 _ _ x4 z17 _ _ x18 n87 _ (K.C 2 rfl) (K.le 2 rfl) (K.C 3 rfl) (K.le 3 rfl) A88.out).mono ?_;rintro e W89 ⟨rfl,hb⟩;refine⟨_,rfl,?_⟩;replace K:=K.u.up hb;clear hb;obtain⟨ua3,ub3⟩:=K.cell2 3 rfl;obtain⟨ua4,ub4⟩:=K.cell2 4 rfl)|((with_reducible refine gd 57 rfl ?_);clear ua3 ub3 ua4 ub4;refine gate_guard (by rfl) ?_;refine kgl (some 57) rfl rfl Tryz.func16 #[.agg #[.bool z31,.slice P38 x32.length c39],.agg #[.bool z45,.slice P52 x46.length c53]] rfl ?_;refine(whole_Cmp.calls _ z31 _ _ x32 z45 _ _ x46 n90 _ (K.C 4 rfl) (K.le 4 rfl) (K.C 5 rfl) (K.le 5 rfl) A91.out).mono ?_;rintro e W92 ⟨rfl,hb⟩;refine⟨_,rfl,?_⟩;replace K:=K.u.up hb;clear hb;obtain⟨ua5,ub5⟩:=K.cell2 5 rfl;obtain⟨ua6,ub6⟩:=K.cell2 6 rfl)|((with_reducible refine gd 68 rfl ?_);clear ua5 ub5 ua6 ub6;refine gate_guard (by rfl) ?_;refine kgl (some 68) rfl rfl Tryz.func16 #[.agg #[.bool z59,.slice P66 x60.length c67],.agg #[.bool z73,.slice P80 x74.length c81]] rfl ?_;refine(whole_Cmp.calls _ z59 _ _ x60 z73 _ _ x74 n93 _ (K.C 6 rfl) (K.le 6 rfl) (K.C 7 rfl) (K.le 7 rfl) A94.out).mono ?_;rintro e W95 ⟨rfl,hb⟩;refine⟨_,rfl,?_⟩;replace K:=K.u.up hb;clear hb)|((with_reducible refine gd 77 rfl ?_);refine gate_guard (by rfl) ?_;refine kgl (some 77) rfl rfl Tryz.func22 #[] rfl ?_;refine(tribunallaw03_alive.calls _ z96 _ A97.out).mono ?_;rintro e W98 ⟨rfl,hb⟩;refine⟨_,rfl,?_⟩;replace K:=K.u.up hb;clear hb))
       go_ret
       exact⟨rfl,K.u.below⟩
      rw[if_neg c_5]at h
      replace c_5:=Bool.eq_false_iff.mpr c_5
      have c_5b:decide (z61=z75)=false:=by simpa using c_5
      exact nomatch h
     rw[if_neg c_4]at h
     have c_4b0:(n93==0)=false:=beq_eq_false_iff_ne.mpr c_4
     have c_4b1:(n93 != 0)=true:=bne_iff_ne.mpr c_4
     clear c_4
     exact nomatch h
    rw[if_neg c_3]at h
    have c_3b0:(n33==n47)=false:=beq_eq_false_iff_ne.mpr c_3
    have c_3b1:(n33 != n47)=true:=bne_iff_ne.mpr c_3
    clear c_3
    exact nomatch h
   rw[if_neg c_2]at h
   have c_2b0:(n90==0)=false:=beq_eq_false_iff_ne.mpr c_2
   have c_2b1:(n90 != 0)=true:=bne_iff_ne.mpr c_2
   clear c_2
   exact nomatch h
  rw[if_neg c_1]at h
  have c_1b0:(n5==n19)=false:=beq_eq_false_iff_ne.mpr c_1
  have c_1b1:(n5 != n19)=true:=bne_iff_ne.mpr c_1
  clear c_1
  exact nomatch h
 rw[if_neg c_0]at h
 have c_0b0:(n87==0)=false:=beq_eq_false_iff_ne.mpr c_0
 have c_0b1:(n87 != 0)=true:=bne_iff_ne.mpr c_0
 clear c_0
 exact nomatch h
def whole_DivMod.f (k:Nat) (a0_0:Bool) (l0_1:List Int) (a1_0:Bool) (l1_1:List Int):Option (Bool×List Int×Bool×List Int×Int):=(whole_of.f k a1_0 l1_1).bind fun bt1273=>((whole_amount_null.f bt1273.1).bind fun t1278=>(if t1278=true then(some (false,([]:List Int),false,([]:List Int),11)) else((whole_of.f k a0_0 l0_1).bind fun bt1279=>((whole_number_cut.f k bt1279.1 bt1279.2 bt1273.1 bt1273.2).bind fun bt1283=>(if bt1283.2.2.2=true then((whole_signed.f bt1273.1 false).bind fun bt1293=>((whole_number_plus.f k bt1283.2.2.1 bt1283.2.2.2 bt1293.1 bt1293.2).bind fun bt1297=>(if bt1273.2=true then((whole_one.f).bind fun bt1301=>((whole_number_plus.f k bt1283.1 bt1283.2.1 bt1301.1 bt1301.2).bind fun bt1305=>((whole_pair.f k bt1305.1 bt1305.2 bt1297.1 bt1297.2).bind fun bt1309=>(some (bt1309.1,bt1309.2.1,bt1309.2.2.1,bt1309.2.2.2.1,bt1309.2.2.2.2))))) else((whole_one.f).bind fun bt1318=>((whole_number_minus.f k bt1283.1 bt1283.2.1 bt1318.1 bt1318.2).bind fun bt1322=>((whole_pair.f k bt1322.1 bt1322.2 bt1297.1 bt1297.2).bind fun bt1326=>(some (bt1326.1,bt1326.2.1,bt1326.2.2.1,bt1326.2.2.2.1,bt1326.2.2.2.2)))))))) else((whole_pair.f k bt1283.1 bt1283.2.1 bt1283.2.2.1 bt1283.2.2.2).bind fun bt1335=>(some (bt1335.1,bt1335.2.1,bt1335.2.2.1,bt1335.2.2.2.1,bt1335.2.2.2.2))))))))
def whole_Sign.f (k:Nat) (a0_0:Bool) (l0_1:List Int):Option (Int):=(whole_of.f k a0_0 l0_1).bind fun bt1345=>((whole_number_cmp.f k bt1345.1 bt1345.2 ([]:List Int) false).bind fun t1349=>(some t1349))
def tribunallaw02_awake.f (k:Nat):Option (Bool):=(whole_Of.f k (-7)).bind fun bt1350=>((whole_Of.f k 2).bind fun bt1354=>((whole_DivMod.f k bt1350.1 bt1350.2 bt1354.1 bt1354.2).bind fun bt1358=>((whole_Print.f k bt1358.1 bt1358.2.1).bind fun bt1369=>((whole_Print.f k bt1358.2.2.1 bt1358.2.2.2.1).bind fun bt1371=>(if bt1358.2.2.2.2=0 then(if bt1369.2=0 then(if bt1371.2=0 then(if bt1369.1.toList=([45,52]:List UInt8) then(if bt1371.1.toList=([49]:List UInt8) then((whole_Sign.f k bt1358.1 bt1358.2.1).bind fun t1373=>(some (t1373==(-1)))) else(none)) else(none)) else(none)) else(none)) else(none))))))
end Go.Proofs.YtikencoikigllaaGreatDoor.PRy
namespace Go.Proofs.YtikencoikigllaaGreatDoor.PRy
open Go.RowKit Go.Proofs.YtikencoikigllaaGreatDoorW.PrintWords Go.Proofs.YtikencoikigllaaGreatDoorW.PrintLast Go.Proofs.YtikencoikigllaaGreatDoorW.PrintMore
open Go.Proofs.YtikencoikigllaaGreatDoor.Mine
attribute [local go_sem] max2_int min2_int max_two min_two max_three min_three max_four min_four
mutual
def whole_Parse.j0:Nat→ByteArray→Bool→Bool→Option (Bool×List Int×Int)
 | 0,_,_,_=>none
 | k+1,x4,x5,x22=>if x22=true then(some (false,([]:List Int),13)) else((strings_TrimLeftG.f x4 (⟨#[48]⟩:ByteArray)).bind fun t1396=>(whole_Parse.l0 k t1396 x5 ([]:List Int)))
def whole_Parse.l0:Nat→ByteArray→Bool→List Int→Option (Bool×List Int×Int)
 | 0,_,_,_=>none
 | k+1,x4,x5,x6=>if x4.toList=([]:List UInt8) then((whole_signed.f x6 x5).bind fun bt1397=>((whole_number_told.f bt1397.1 bt1397.2).bind fun bt1401=>(some (bt1401.1,bt1401.2.1,bt1401.2.2)))) else(if 0≤(mn 18 (x4.size:Int)) then(if(mn 18 (x4.size:Int))≤(x4.size:Int) then((strconv_ParseUintG.f (x4.extract 0 ((mn 18 (x4.size:Int)):Int).toNat) 10 64).bind fun bt1406=>(whole_Parse.l1 k x4 x5 x6 (mn 18 (x4.size:Int)) bt1406.1 1 (mn 18 (x4.size:Int)) 0)) else(none)) else(none))
def whole_Parse.l1:Nat→ByteArray→Bool→List Int→Int→Int→Int→Int→Int→Option (Bool×List Int×Int)
 | 0,_,_,_,_,_,_,_,_=>none
 | k+1,x4,x5,x6,x7,x8,x10,x38,x39=>if x39<x38 then(whole_Parse.l1 k x4 x5 x6 x7 x8 (IntKind.u64.wrap (x10*10)) x38 (wrap64 (x39+1))) else((whole_amount_times.f k x6 (([x10]:List Int))).bind fun t1411=>((whole_trimmed.f k (([x8]:List Int))).bind fun t1417=>((whole_amount_plus.f k t1411 t1417).bind fun t1420=>(if(t1420.length:Int)>4096 then(some (false,([]:List Int),5)) else(if 0≤x7 then(if x7≤(x4.size:Int) then(whole_Parse.l0 k (x4.extract (x7:Int).toNat x4.size) x5 t1420) else(none)) else(none))))))
end
def whole_Parse.f (k:Nat) (a0:ByteArray):Option (Bool×List Int×Int):=(strings_CutPrefixG.f a0 (⟨#[45]⟩:ByteArray)).bind fun bt1393=>(if bt1393.1.toList=([]:List UInt8) then(whole_Parse.j0 k bt1393.1 bt1393.2 true) else((strings_TrimG.f bt1393.1 (⟨#[48,49,50,51,52,53,54,55,56,57]⟩:ByteArray)).bind fun t1395=>(whole_Parse.j0 k bt1393.1 bt1393.2 (t1395.toList != ([]:List UInt8)))))
end Go.Proofs.YtikencoikigllaaGreatDoor.PRy
namespace Go.Proofs.YtikencoikigllaaGreatDoor.PRy
open Go.RowKit Go.Proofs.YtikencoikigllaaGreatDoorW.PrintWords Go.Proofs.YtikencoikigllaaGreatDoorW.PrintLast Go.Proofs.YtikencoikigllaaGreatDoorW.PrintMore
open Go.Proofs.YtikencoikigllaaGreatDoor.Mine
attribute [local go_sem] max2_int min2_int max_two min_two max_three min_three max_four min_four
mutual
def tribunalref02_Read.l0:Nat→ByteArray→Int→Bool→Option (Bool×List Int×Bool)
 | 0,_,_,_=>none
 | k+1,x0,x5,x1425000=>if x5<(x0.size:Int) then(if 0≤x5 then(if(bt x0 x5)<48 then(some (false,([]:List Int),false)) else(if(bt x0 x5)>57 then(some (false,([]:List Int),false)) else(tribunalref02_Read.l0 k x0 (wrap64 (x5+1)) x1425000))) else(none)) else(tribunalref02_Read.l1 k x0 0 x1425000 ([]:List Int))
def tribunalref02_Read.l1:Nat→ByteArray→Int→Bool→List Int→Option (Bool×List Int×Bool)
 | 0,_,_,_,_=>none
 | k+1,x0,x6,x1425000,x1425001=>if x6<(x0.size:Int) then((tribunalref02_timesD.f k x1425001 10).bind fun t1425=>(if 0≤x6 then((tribunalref02_Small1.f k (((bt x0 x6)-48)%256)).bind fun bt1428=>((tribunalref02_addD.f k t1425 bt1428.2).bind fun t1432=>((tribunalref02_Make.f k false t1432).bind fun bt1435=>(tribunalref02_Read.l1 k x0 (wrap64 (x6+1)) bt1435.1 bt1435.2)))) else(none))) else(some (x1425000,x1425001,decide (0<x0.size)))
end
def tribunalref02_Read.f (k:Nat) (a0:ByteArray):Option (Bool×List Int×Bool):=tribunalref02_Read.l0 k a0 0 false
end Go.Proofs.YtikencoikigllaaGreatDoor.PRy
namespace Go.Proofs.YtikencoikigllaaGreatDoor.PRy
open Go.RowKit Go.Proofs.YtikencoikigllaaGreatDoorW.PrintWords Go.Proofs.YtikencoikigllaaGreatDoorW.PrintLast Go.Proofs.YtikencoikigllaaGreatDoorW.PrintMore
open Go.Proofs.YtikencoikigllaaGreatDoor.Mine
attribute [local go_sem] max2_int min2_int max_two min_two max_three min_three max_four min_four
def tribunalref02_Out.f (k:Nat) (a0_0:Bool) (l0_1:List Int):Option (Bool×List Int×Int):=if(l0_1.length:Int)>16384 then(some (false,([]:List Int),5)) else((tribunalref02_To.f k a0_0 l0_1).bind fun bt1441=>(some (bt1441.1,bt1441.2,0)))
end Go.Proofs.YtikencoikigllaaGreatDoor.PRy
namespace Go.Proofs.YtikencoikigllaaGreatDoor.PRy
open Go.RowKit Go.Proofs.YtikencoikigllaaGreatDoorW.PrintWords Go.Proofs.YtikencoikigllaaGreatDoorW.PrintLast Go.Proofs.YtikencoikigllaaGreatDoorW.PrintMore
open Go.Proofs.YtikencoikigllaaGreatDoor.Mine
attribute [local go_sem] max2_int min2_int max_two min_two max_three min_three max_four min_four
mutual
def tribunalref02_Parse.j0:Nat→ByteArray→ByteArray→Bool→Option (Bool×List Int×Int)
 | 0,_,_,_=>none
 | k+1,x0,x4,x5=>if x5=true then(if 1≤(x0.size:Int) then(tribunalref02_Parse.j1 k (x0.extract 1 x0.size) x5) else(none)) else(tribunalref02_Parse.j1 k x4 x5)
def tribunalref02_Parse.j1:Nat→ByteArray→Bool→Option (Bool×List Int×Int)
 | 0,_,_=>none
 | k+1,x4,x5=>(tribunalref02_Read.f k x4).bind fun bt1446=>(if bt1446.2.2=true then((tribunalref02_Make.f k x5 bt1446.2.1).bind fun bt1452=>((tribunalref02_Out.f k bt1452.1 bt1452.2).bind fun bt1456=>(some (bt1456.1,bt1456.2.1,bt1456.2.2)))) else(some (false,([]:List Int),13)))
end
def tribunalref02_Parse.f (k:Nat) (a0:ByteArray):Option (Bool×List Int×Int):=if(a0.size:Int)>0 then(if 0<(a0.size:Int) then(tribunalref02_Parse.j0 k a0 a0 ((bt a0 0)==45)) else(none)) else(tribunalref02_Parse.j0 k a0 a0 false)
end Go.Proofs.YtikencoikigllaaGreatDoor.PRy
namespace Go.Proofs.YtikencoikigllaaGreatDoor.PRy
open Go.RowKit Go.Proofs.YtikencoikigllaaGreatDoorW.PrintWords Go.Proofs.YtikencoikigllaaGreatDoorW.PrintLast Go.Proofs.YtikencoikigllaaGreatDoorW.PrintMore
open Go.Proofs.YtikencoikigllaaGreatDoor.Mine
attribute [local go_sem] max2_int min2_int max_two min_two max_three min_three max_four min_four
def tribunallaw02_WholeParses.f (k:Nat) (a0:ByteArray):Option (Bool):=if(a0.size:Int)>20000 then((tribunallaw02_awake.f k).bind fun t1461=>(some t1461)) else((whole_Parse.f k a0).bind fun bt1462=>((tribunalref02_Parse.f k a0).bind fun bt1468=>((tribunalref02_Same.f k bt1462.1 bt1462.2.1 bt1468.1 bt1468.2.1).bind fun t1474=>(if t1474=true then(if bt1462.2.2=bt1468.2.2 then((tribunallaw02_awake.f k).bind fun t1475=>(some t1475)) else(some false)) else(some false)))))
end Go.Proofs.YtikencoikigllaaGreatDoor.PRy
namespace Go.Proofs.YtikencoikigllaaGreatDoor.Big
def val (B:Int):List Int→Int
 | []=>0
 | x::xs=>x+B*val B xs
def Dig (B:Int) (l:List Int):Prop:=∀x∈l,0≤x∧x<B
def Top:List Int→Prop
 | []=>True
 | [x]=>x≠0
 | _::y::l=>Top (y::l)
theorem Dig.nil {B:Int}:Dig B []:=fun _ h=>by cases h
theorem Dig.cons {B x:Int} {l:List Int}:Dig B (x::l)↔(0≤x∧x<B)∧Dig B l:=by
 simp[Dig]
theorem Dig.append {B:Int} {a b:List Int}:Dig B (a++b)↔Dig B a∧Dig B b:=by
 simp only[Dig,List.mem_append]
 exact⟨fun h=>⟨fun x hx=>h x (.inl hx),fun x hx=>h x (.inr hx)⟩,fun h x hx=>hx.elim (h.1 x) (h.2 x)⟩
theorem Dig.take {B:Int} {a:List Int} (h:Dig B a) (n:Nat):Dig B (a.take n):=fun x hx=>h x (List.mem_of_mem_take hx)
theorem Dig.drop {B:Int} {a:List Int} (h:Dig B a) (n:Nat):Dig B (a.drop n):=fun x hx=>h x (List.mem_of_mem_drop hx)
theorem Dig.set {B:Int} {a:List Int} (h:Dig B a) (n:Nat) {v:Int} (hv:0≤v∧v<B):Dig B (a.set n v):=fun x hx=>by
 rcases List.mem_or_eq_of_mem_set hx with hx|rfl
 ·exact h x hx
 exact hv
theorem Dig.rep {B:Int} (hB:0<B) (n:Nat):Dig B (List.replicate n 0):=fun x hx=>by
 have:=List.eq_of_mem_replicate hx;omega
theorem Dig.get {B:Int} {a:List Int} (h:Dig B a) (i:Nat) (hi:i<a.length):0≤a[i]∧a[i]<B:=h _ (List.getElem_mem hi)
theorem val_append (B:Int) (a b:List Int):val B (a++b)=val B a+B^a.length*val B b:=by
 induction a with
 | nil=>simp[val]
 | cons x a ih=>simp only[List.cons_append,val,ih,List.length_cons,Int.pow_succ];grind
theorem val_replicate (B:Int) (n:Nat):val B (List.replicate n 0)=0:=by
 induction n with
 | zero=>rfl
 | succ n ih=>simp[List.replicate_succ,val,ih]
theorem pow_pos {B:Int} (hB:0<B) (n:Nat):0<B^n:=Int.pow_pos hB
theorem val_nonneg {B:Int} (hB:0<B) {l:List Int} (h:Dig B l):0≤val B l:=by
 induction l with
 | nil=>simp[val]
 | cons x l ih=>
  rw[Dig.cons]at h
  have:=ih h.2
  have:=Int.mul_nonneg (Int.le_of_lt hB) this
  simp only[val];omega
theorem val_lt {B:Int} (hB:0<B) {l:List Int} (h:Dig B l):val B l<B^l.length:=by
 induction l with
 | nil=>simp[val]
 | cons x l ih=>
  rw[Dig.cons]at h
  have h1:=ih h.2
  have h2:B*(val B l+1)≤B*B^l.length:=Int.mul_le_mul_of_nonneg_left (by omega) (by omega)
  simp only[val,List.length_cons,Int.pow_succ]
  grind
theorem val_set (B:Int) (l:List Int) (i:Nat) (v:Int) (hi:i<l.length):val B (l.set i v)=val B l+(v-l[i])*B^i:=by
 induction l generalizing i with
 | nil=>simp at hi
 | cons x l ih=>
  cases i with
  | zero=>simp only[List.set_cons_zero,val,List.getElem_cons_zero,Int.pow_zero];omega
  | succ i=>
   simp only[List.set_cons_succ,val,List.getElem_cons_succ,Int.pow_succ]
   rw[ih i (by simpa using hi)]
   grind
theorem val_take_succ (B:Int) (l:List Int) (i:Nat) (hi:i<l.length):val B (l.take (i+1))=val B (l.take i)+l[i]*B^i:=by
 rw[List.take_succ_eq_append_getElem hi,val_append]
 simp[val,List.length_take,Nat.min_eq_left (Nat.le_of_lt hi),Int.mul_comm]
theorem val_split (B:Int) (l:List Int) (i:Nat) (hi:i≤l.length):val B l=val B (l.take i)+B^i*val B (l.drop i):=by
 have:=val_append B (l.take i) (l.drop i)
 rw[List.take_append_drop,List.length_take,Nat.min_eq_left hi]at this
 exact this
theorem val_snoc (B:Int) (l:List Int) (x:Int):val B (l++[x])=val B l+x*B^l.length:=by
 rw[val_append];simp[val,Int.mul_comm]
theorem Top.cons {x y:Int} {l:List Int}:Top (x::y::l)↔Top (y::l):=Iff.rfl
theorem Top_iff (l:List Int):Top l↔∀h:l≠[],l.getLast h≠0:=by
 induction l with
 | nil=>simp[Top]
 | cons x l ih=>
  cases l with
  | nil=>simp[Top]
  | cons y l=>rw[Top.cons,ih];exact⟨fun h _=>by simpa using h (by simp),fun h _=>by simpa using h (by simp)⟩
theorem Top_snoc {l:List Int} {x:Int} (h:x≠0):Top (l++[x]):=by
 rw[Top_iff];intro _;simpa using h
theorem uniq {B:Int} (hB:1<B):∀ {a b:List Int},Dig B a→Dig B b→Top a→Top b→val B a=val B b→a=b:=by
 have key:∀ {b:List Int},Dig B b→Top b→val B b=0→b=[]:=by
  intro b
  induction b with
  | nil=>intros;rfl
  | cons y b ih=>
   intro hd ht hv
   rw[Dig.cons]at hd
   simp only[val]at hv
   have h0:=val_nonneg (by omega) hd.2
   have h1:=Int.mul_nonneg (show 0≤B by omega) h0
   have h2:B*val B b=0:=by omega
   have h3:val B b=0:=by rcases Int.mul_eq_zero.1 h2 with h|h<;>omega
   cases b with
   | nil=>exfalso;simp only[Top]at ht;omega
   | cons z b=>have:=ih hd.2 ht h3;cases this
 intro a
 induction a with
 | nil=>
  intro b _ hb _ tb h
  exact(key hb tb h.symm).symm
 | cons x a ih=>
  intro b ha hb ta tb h
  cases b with
  | nil=>exact key ha ta h
  | cons y b=>
   rw[Dig.cons]at ha hb
   simp only[val]at h
   have e1:x=y:=by
    have h1:(x+B*val B a)%B=x:=by rw[Int.add_mul_emod_self_left];exact Int.emod_eq_of_lt ha.1.1 ha.1.2
    have h2:(y+B*val B b)%B=y:=by rw[Int.add_mul_emod_self_left];exact Int.emod_eq_of_lt hb.1.1 hb.1.2
    rw[←h1,←h2,h]
   subst e1
   have e2:val B a=val B b:=by
    have:B*val B a=B*val B b:=by omega
    exact Int.eq_of_mul_eq_mul_left (by omega) this
   have ta':Top a:=by cases a with|nil=>trivial|cons=>exact ta
   have tb':Top b:=by cases b with|nil=>trivial|cons=>exact tb
   rw[ih ha.2 hb.2 ta' tb' e2]
theorem low {B:Int} (hB:0<B) {l:List Int} (h:Dig B l) (t:Top l) (hne:l≠[]):B^(l.length-1)≤val B l:=by
 induction l with
 | nil=>exact absurd rfl hne
 | cons x l ih=>
  rw[Dig.cons]at h
  cases l with
  | nil=>simp only[Top]at t;simp[val];omega
  | cons y l=>
   have:=ih h.2 t (by simp)
   simp only[List.length_cons,Nat.add_sub_cancel]at this ⊢
   simp only[val]at this ⊢
   have:=Int.mul_le_mul_of_nonneg_left this (Int.le_of_lt hB)
   rw[Int.pow_succ,Int.mul_comm]
   omega
structure Rep (B:Int) (n:Int) (l:List Int):Prop where
 dig:Dig B l
 top:Top l
 val:val B l=n
theorem Rep.uniq {B n:Int} (hB:1<B) {a b:List Int} (ha:Rep B n a) (hb:Rep B n b):a=b:=
 Big.uniq hB ha.dig hb.dig ha.top hb.top (ha.val.trans hb.val.symm)
theorem Rep.nonneg {B n:Int} (hB:0<B) {a:List Int} (ha:Rep B n a):0≤n:=ha.val ▸ val_nonneg hB ha.dig
theorem Rep.lt {B n:Int} (hB:0<B) {a:List Int} (ha:Rep B n a):n<B^a.length:=ha.val ▸ val_lt hB ha.dig
theorem Rep.low {B n:Int} (hB:0<B) {a:List Int} (ha:Rep B n a) (h:a≠[]):B^(a.length-1)≤n:=ha.val ▸ Big.low hB ha.dig ha.top h
theorem Rep.nil_iff {B n:Int} (hB:0<B) {a:List Int} (ha:Rep B n a):a=[]↔n=0:=by
 constructor
 ·rintro rfl;exact ha.val.symm
 intro h
 rcases Classical.em (a=[]) with e|e
 ·exact e
 have:=ha.low hB e;have:=pow_pos hB (a.length-1);omega
end Go.Proofs.YtikencoikigllaaGreatDoor.Big
namespace Go.Proofs.YtikencoikigllaaGreatDoor.PurePRy
set_option linter.unusedVariables false
set_option linter.unusedSimpArgs false
open Go.RowKit Go.Proofs.YtikencoikigllaaGreatDoorW.PrintWords Go.Proofs.YtikencoikigllaaGreatDoorW.PrintLast Go.Proofs.YtikencoikigllaaGreatDoorW.PrintMore Go.Proofs.YtikencoikigllaaGreatDoor.PRy Go.Proofs.YtikencoikigllaaGreatDoor Go.Proofs.YtikencoikigllaaGreatDoor.Mine
open Big
def Ev {α:Type} (f:Nat→Option α) (r:α):Prop:=∃K,∀k,K≤k→f k=some r
theorem up {α:Type} {f:Nat→Option α} (mono:∀k,LeO (f k) (f (k+1))) {k:Nat} {r:α} (h:f k=some r):∀j,k≤j→f j=some r:=by
 intro j hj
 induction hj with
 | refl=>exact h
 | step _ ih=>exact mono _ _ ih
theorem Ev.of {α:Type} {f:Nat→Option α} (mono:∀k,LeO (f k) (f (k+1))) {k:Nat} {r:α} (h:f k=some r):Ev f r:=⟨k,up mono h⟩
theorem Ev.bind {α β:Type} {f:Nat→Option α} {a:α} (h:Ev f a) {g:Nat→α→Option β} {b:β} (hg:Ev (fun k=>g k a) b):Ev (fun k=>(f k).bind (g k)) b:=by
 obtain⟨K1,h1⟩:=h
 obtain⟨K2,h2⟩:=hg
 exact⟨max K1 K2,fun k hk=>by show(f k).bind (g k)=_;rw[h1 k (by omega)];exact h2 k (by omega)⟩
theorem rd_nat (l:List Int) (n:Nat) (h:n<l.length):rd l (n:Int)=l[n]:=by
 simp[rd,List.getD_eq_getElem?_getD,List.getElem?_eq_getElem h]
theorem w64 (n:Int) (h:-9223372036854775808≤n∧n≤9223372036854775807):wrap64 n=n:=IntWalk.wrap64_in n h
theorem whole_trimmed_l0 (l:List Int) (hl:l.length<9223372036854775807):∀(n k:Nat),n≤l.length→n<k→∃m,m≤n∧whole_trimmed.l0 k l (n:Int)=some (l.take m)∧Top (l.take m)∧∀B,val B (l.take m)=val B (l.take n):=by
 intro n
 induction n with
 | zero=>
  intro k _ hk
  obtain⟨k,rfl⟩:∃j,k=j+1:=⟨k-1,by omega⟩
  refine⟨0,Nat.le_refl _,?_,by simp[Top],fun _=>rfl⟩
  simp only[whole_trimmed.l0]
  rw[if_neg (by omega),if_pos (by omega),if_pos (by omega)]
  rfl
 | succ n ih=>
  intro k hn hk
  obtain⟨k,rfl⟩:∃j,k=j+1:=⟨k-1,by omega⟩
  have hw:wrap64 (((n+1:Nat):Int)-1)=(n:Int):=by rw[w64 _ (by omega)];omega
  simp only[whole_trimmed.l0]
  rw[hw,if_pos (by omega),if_pos (by omega),if_pos (by omega),rd_nat l n (by omega)]
  by_cases h0:l[n]=0
  ·obtain⟨m,hm,he,ht,hv⟩:=ih k (by omega) (by omega)
   refine⟨m,by omega,by rw[if_pos h0];exact he,ht,fun B=>?_⟩
   rw[hv B,val_take_succ B l n (by omega),h0];simp
  refine⟨n+1,Nat.le_refl _,?_,?_,fun _=>rfl⟩
  ·rw[if_neg h0,if_pos (by omega),if_pos (by omega)];congr 1
  rw[List.take_succ_eq_append_getElem (by omega)];exact Top_snoc h0
theorem whole_trimmed_ev {B:Int} {l:List Int} (hl:l.length<9223372036854775807) (hd:Dig B l):∃r,Ev (fun k=>whole_trimmed.f k l) r∧Dig B r∧Top r∧val B r=val B l:=by
 obtain⟨m,hm,he,ht,hv⟩:=whole_trimmed_l0 l hl l.length (l.length+1) (Nat.le_refl _) (by omega)
 refine⟨l.take m,Ev.of (fun k=>whole_trimmed.mono l k) he,hd.take m,ht,?_⟩
 rw[hv B,List.take_length]
theorem tribunalref02_trim_l0 (l:List Int) (hl:l.length<9223372036854775807):∀(n k:Nat),n≤l.length→n<k→∃m,m≤n∧tribunalref02_trim.l0 k l (n:Int)=some (l.take m)∧Top (l.take m)∧∀B,val B (l.take m)=val B (l.take n):=by
 intro n
 induction n with
 | zero=>
  intro k _ hk
  obtain⟨k,rfl⟩:∃j,k=j+1:=⟨k-1,by omega⟩
  refine⟨0,Nat.le_refl _,?_,by simp[Top],fun _=>rfl⟩
  simp only[tribunalref02_trim.l0]
  rw[if_neg (by omega),if_pos (by omega),if_pos (by omega)]
  rfl
 | succ n ih=>
  intro k hn hk
  obtain⟨k,rfl⟩:∃j,k=j+1:=⟨k-1,by omega⟩
  have hw:wrap64 (((n+1:Nat):Int)-1)=(n:Int):=by rw[w64 _ (by omega)];omega
  simp only[tribunalref02_trim.l0]
  rw[hw,if_pos (by omega),if_pos (by omega),if_pos (by omega),rd_nat l n (by omega)]
  by_cases h0:l[n]=0
  ·obtain⟨m,hm,he,ht,hv⟩:=ih k (by omega) (by omega)
   refine⟨m,by omega,by rw[if_pos h0];exact he,ht,fun B=>?_⟩
   rw[hv B,val_take_succ B l n (by omega),h0];simp
  refine⟨n+1,Nat.le_refl _,?_,?_,fun _=>rfl⟩
  ·rw[if_neg h0,if_pos (by omega),if_pos (by omega)];congr 1
  rw[List.take_succ_eq_append_getElem (by omega)];exact Top_snoc h0
theorem tribunalref02_trim_ev {B:Int} {l:List Int} (hl:l.length<9223372036854775807) (hd:Dig B l):∃r,Ev (fun k=>tribunalref02_trim.f k l) r∧Dig B r∧Top r∧val B r=val B l:=by
 obtain⟨m,hm,he,ht,hv⟩:=tribunalref02_trim_l0 l hl l.length (l.length+1) (Nat.le_refl _) (by omega)
 refine⟨l.take m,Ev.of (fun k=>tribunalref02_trim.mono l k) he,hd.take m,ht,?_⟩
 rw[hv B,List.take_length]
end Go.Proofs.YtikencoikigllaaGreatDoor.PurePRy
namespace Go.Proofs.YtikencoikigllaaGreatDoor.PurePRy
set_option linter.unusedVariables false
set_option linter.unusedSimpArgs false
open Go.RowKit Go.Proofs.YtikencoikigllaaGreatDoorW.PrintWords Go.Proofs.YtikencoikigllaaGreatDoorW.PrintLast Go.Proofs.YtikencoikigllaaGreatDoorW.PrintMore Go.Proofs.YtikencoikigllaaGreatDoor.PRy Go.Proofs.YtikencoikigllaaGreatDoor Go.Proofs.YtikencoikigllaaGreatDoor.Mine Big
theorem and32 (x:Int) (h:0≤x∧x<18446744073709551616):Go.bits .and .u64 x 4294967295=x%4294967296:=by
 obtain⟨n,rfl⟩:=Int.eq_ofNat_of_zero_le h.1
 have:=bits_and_u64_nat n 4294967295 (by omega) (by decide)
 rw[show((4294967295:Nat):Int)=4294967295 from rfl]at this
 rw[this,show(4294967295:Nat)=2^32-1 from by decide,Nat.and_two_pow_sub_one_eq_mod]
 omega
theorem mul_bound {x y M:Int} (hx:0≤x∧x≤M) (hy:0≤y∧y≤M):0≤x*y∧x*y≤M*M:=
 ⟨Int.mul_nonneg hx.1 hy.1,Int.mul_le_mul hx.2 hy.2 hy.1 (by omega)⟩
theorem Mul64_eq (x y:Int) (hx:0≤x∧x<18446744073709551616) (hy:0≤y∧y<18446744073709551616):bits_Mul64.f x y=some (x*y/18446744073709551616,x*y%18446744073709551616):=by
 unfold bits_Mul64.f
 rw[and32 x hx,and32 y hy]
 obtain⟨x1,hx1⟩:∃z,z=x/4294967296:=⟨_,rfl⟩
 obtain⟨x0,hx0⟩:∃z,z=x%4294967296:=⟨_,rfl⟩
 obtain⟨y1,hy1⟩:∃z,z=y/4294967296:=⟨_,rfl⟩
 obtain⟨y0,hy0⟩:∃z,z=y%4294967296:=⟨_,rfl⟩
 rw[←hx1,←hx0,←hy1,←hy0]
 have ex:x=4294967296*x1+x0:=by omega
 have ey:y=4294967296*y1+y0:=by omega
 have bx1:0≤x1∧x1≤4294967295:=by omega
 have bx0:0≤x0∧x0≤4294967295:=by omega
 have by1:0≤y1∧y1≤4294967295:=by omega
 have by0:0≤y0∧y0≤4294967295:=by omega
 have p11:=mul_bound bx1 by1
 have p10:=mul_bound bx1 by0
 have p01:=mul_bound bx0 by1
 have p00:=mul_bound bx0 by0
 have exy:x*y=18446744073709551616*(x1*y1)+4294967296*(x1*y0)+4294967296*(x0*y1)+x0*y0:=by rw[ex,ey];grind
 generalize x1*y1=a11 at *
 generalize x1*y0=a10 at *
 generalize x0*y1=a01 at *
 generalize x0*y0=a00 at *
 generalize x*y=xy at *
 clear hx1 hx0 hy1 hy0 ex ey
 have w0:IntKind.u64.wrap a00=a00:=by rw[IntKind.wrap_u64];omega
 have w1:IntKind.u64.wrap a10=a10:=by rw[IntKind.wrap_u64];omega
 have w2:IntKind.u64.wrap a01=a01:=by rw[IntKind.wrap_u64];omega
 have w3:IntKind.u64.wrap a11=a11:=by rw[IntKind.wrap_u64];omega
 rw[w0,w1,w2,w3]
 have w4:IntKind.u64.wrap (a10+a00/4294967296)=a10+a00/4294967296:=by rw[IntKind.wrap_u64];omega
 rw[w4,and32 _ (by omega)]
 have w5:IntKind.u64.wrap ((a10+a00/4294967296)%4294967296+a01)=(a10+a00/4294967296)%4294967296+a01:=by rw[IntKind.wrap_u64];omega
 rw[w5]
 simp only[IntKind.wrap_u64,Option.some.injEq,Prod.mk.injEq]
 refine⟨?_,trivial⟩
 obtain⟨t,ht⟩:∃t,t=a10+a00/4294967296:=⟨_,rfl⟩
 rw[←ht]
 obtain⟨q,hq⟩:∃q,q=t/4294967296:=⟨_,rfl⟩
 obtain⟨m,hm⟩:∃m,m=t%4294967296:=⟨_,rfl⟩
 rw[←hq,←hm]
 obtain⟨u,hu⟩:∃u,u=(m+a01)/4294967296:=⟨_,rfl⟩
 rw[←hu]
 have b1:0≤q∧q≤4294967295:=by omega
 have b2:0≤u∧u≤4294967295:=by omega
 have e2:xy/18446744073709551616=a11+q+u:=by
  have:xy=18446744073709551616*(a11+q+u)+(4294967296*((m+a01)%4294967296)+a00%4294967296):=by omega
  omega
 rw[e2,Int.emod_eq_of_lt (by omega) (by omega),Int.emod_eq_of_lt (by omega) (by omega)]
theorem limb4 (x:Int) (h:0≤x∧x<18446744073709551616):val 65536 [IntKind.u16.wrap x,IntKind.u16.wrap (x/65536),IntKind.u16.wrap (x/4294967296),IntKind.u16.wrap (x/281474976710656)]=x∧Dig 65536 [IntKind.u16.wrap x,IntKind.u16.wrap (x/65536),IntKind.u16.wrap (x/4294967296),IntKind.u16.wrap (x/281474976710656)]:=by
 simp only[IntKind.wrap_u16,val,Dig.cons]
 refine⟨by omega,by omega,by omega,by omega,by omega,Dig.nil⟩
theorem pow4:(18446744073709551616:Int)=65536^4:=by decide
theorem From_l0 (s:Bool) (l:List Int) (hl:l.length≤1048576) (hd:Dig 18446744073709551616 l):∀(n i k:Nat) (d:List Int),i+n=l.length→n+4*l.length+3<k→d.length=4*i→Dig 65536 d→val 65536 d=val 18446744073709551616 (l.take i) →
  ∃r,Ev (fun k=>tribunalref02_From.l0 k d (i:Int) s l) (s&&decide (0<r.length),r)∧Dig 65536 r∧Top r∧val 65536 r=val 18446744073709551616 l:=by
 intro n
 induction n with
 | zero=>
  intro i k d hi hk hdl hdd hdv
  obtain⟨r,⟨K,hr⟩,hrd,hrt,hrv⟩:=tribunalref02_trim_ev (B:=65536) (l:=d) (by omega) hdd
  refine⟨r,⟨K+1,fun k hk=>?_⟩,hrd,hrt,by rw[hrv,hdv,show i=l.length from by omega,List.take_length]⟩
  obtain⟨k,rfl⟩:∃j,k=j+1:=⟨k-1,by omega⟩
  simp only[tribunalref02_From.l0]
  rw[if_neg (by omega)]
  simp only[tribunalref02_Make.f,hr k (by omega),Option.bind_some]
  cases s<;>simp
 | succ n ih=>
  intro i k d hi hk hdl hdd hdv
  have hx:=hd.get i (by omega)
  obtain⟨hv4,hd4⟩:=limb4 l[i] hx
  obtain⟨r,⟨K,hr⟩,h1,h2,h3⟩:=ih (i+1) (k-1) (d++[IntKind.u16.wrap l[i],IntKind.u16.wrap (l[i]/65536),IntKind.u16.wrap (l[i]/4294967296),IntKind.u16.wrap (l[i]/281474976710656)]) (by omega) (by omega) (by simp;omega) (Dig.append.2 ⟨hdd,hd4⟩)
   (by rw[val_append,hv4,hdv,val_take_succ _ l i (by omega),hdl,pow4,Int.pow_mul];rw[Int.mul_comm])
  refine⟨r,⟨K+1,fun k hk=>?_⟩,h1,h2,h3⟩
  obtain⟨k,rfl⟩:∃j,k=j+1:=⟨k-1,by omega⟩
  simp only[tribunalref02_From.l0]
  rw[if_pos (by omega),if_pos (by omega),rd_nat l i (by omega)]
  simp only[Option.bind_some]
  rw[if_pos (by simp;omega),w64 _ (by omega)]
  have:=hr k (by omega)
  rwa [show((i+1:Nat):Int)=(i:Int)+1 from by omega]at this
theorem From_ev (s:Bool) (l:List Int) (hl:l.length≤1048576) (hd:Dig 18446744073709551616 l) :
  ∃r,Ev (fun k=>tribunalref02_From.f k s l) (s&&decide (0<r.length),r)∧Dig 65536 r∧Top r∧val 65536 r=val 18446744073709551616 l:=by
 have:=From_l0 s l hl hd l.length 0 (l.length+4*l.length+4) [] (by omega) (by omega) rfl Dig.nil rfl
 exact this
theorem of_ev (s:Bool) (l:List Int) (hl:l.length≤1048576) (hd:Dig 18446744073709551616 l) :
  ∃r,Ev (fun k=>whole_of.f k s l) (r,s&&decide (0<r.length))∧r.length≤l.length∧Dig 18446744073709551616 r∧Top r∧val 18446744073709551616 r=val 18446744073709551616 l:=by
 obtain⟨m,hm,he,ht,hv⟩:=whole_trimmed_l0 l (by omega) l.length (l.length+1) (Nat.le_refl _) (by omega)
 obtain⟨K,hr⟩:=Ev.of (fun k=>whole_trimmed.mono l k) he
 refine⟨l.take m,⟨K,fun k hk=>?_⟩,by rw[List.length_take];omega,hd.take m,ht,by rw[hv,List.take_length]⟩
 simp only[whole_of.f,hr k hk,Option.bind_some]
 cases s
 ·simp
 simp only[whole_amount_null.f,Option.bind_some,if_true]
 congr 2
 cases h:l.take m<;>simp<;>omega
theorem or16 (x d:Int) (hx:0≤x∧x<281474976710656) (hd:0≤d∧d<65536):Go.bits .or .u64 (IntKind.u64.wrap (x*65536)) (IntKind.u64.wrap d)=x*65536+d:=by
 rw[IntKind.wrap_u64,IntKind.wrap_u64,Int.emod_eq_of_lt (by omega) (by omega),Int.emod_eq_of_lt (by omega) (by omega)]
 obtain⟨n,rfl⟩:=Int.eq_ofNat_of_zero_le hx.1
 obtain⟨m,rfl⟩:=Int.eq_ofNat_of_zero_le hd.1
 have:=bits_or_u64_nat (n*65536) m (by omega) (by omega)
 rw[show((n:Int)*65536)=((n*65536:Nat):Int) from by omega,this]
 have e:n*65536 ||| m=n*65536+m:=by
  have:=Nat.shiftLeft_add_eq_or_of_lt (i:=16) (b:=m) (by omega) n
  rw[Nat.shiftLeft_eq]at this
  exact this.symm
 rw[e];omega
theorem To_step (k:Nat) (l D:List Int) (s:Bool) (i j:Nat) (x:Int) (hD:D.length≤8388608) (hd:Dig 65536 D) (hi:i≤8388608) (hj:j≤3) (hx:0≤x∧x<281474976710656) :
  tribunalref02_To.l1 (k+1) l (i:Int) x (j:Int) s D=tribunalref02_To.l1 k l (i:Int) (x*65536+D.getD (i+j) 0) ((j:Int)-1) s D:=by
 rw[tribunalref02_To.l1,if_pos (by omega),w64 _ (by omega),w64 _ (by omega)]
 by_cases h:i+j<D.length
 ·have hdj:=hd.get (i+j) h
  rw[if_pos (by omega),if_pos (by omega),show(i:Int)+(j:Int)=((i+j:Nat):Int) from by omega,rd_nat D (i+j) h,or16 x _ hx hdj,List.getD_eq_getElem?_getD,List.getElem?_eq_getElem h,Option.getD_some]
 rw[if_neg (by omega),List.getD_eq_getElem?_getD,List.getElem?_eq_none (by omega),Option.getD_none,IntKind.wrap_u64,Int.emod_eq_of_lt (by omega) (by omega),Int.add_zero]
theorem take4 (D:List Int) (i:Nat) (hi:i<D.length):val 65536 (D.take (i+4))=val 65536 (D.take i)+65536^i*((((0*65536+D.getD (i+3) 0)*65536+D.getD (i+2) 0)*65536+D.getD (i+1) 0)*65536+D.getD (i+0) 0):=by
 have e:D.take (i+4)=D.take i++(D.drop i).take 4:=by rw[List.take_add]
 rw[e,val_append,List.length_take,Nat.min_eq_left (by omega)]
 have h:val 65536 ((D.drop i).take 4)=(((0*65536+D.getD (i+3) 0)*65536+D.getD (i+2) 0)*65536+D.getD (i+1) 0)*65536+D.getD (i+0) 0:=by
  have g:∀j,D.getD (i+j) 0=(D.drop i).getD j 0:=fun j=>by simp[List.getD_eq_getElem?_getD]
  rw[g 0,g 1,g 2,g 3]
  match D.drop i with
  | []=>rfl
  | [a]=>simp[val,List.getD_eq_getElem?_getD]
  | [a,b]=>simp[val,List.getD_eq_getElem?_getD];omega
  | [a,b,c]=>simp[val,List.getD_eq_getElem?_getD];omega
  | a::b::c::d::_=>simp[val,List.getD_eq_getElem?_getD];omega
 rw[h]
theorem getD_dig {B:Int} (hB:0<B) {D:List Int} (hd:Dig B D) (j:Nat):0≤D.getD j 0∧D.getD j 0<B:=by
 by_cases h:j<D.length
 ·rw[List.getD_eq_getElem?_getD,List.getElem?_eq_getElem h];exact hd.get j h
 rw[List.getD_eq_getElem?_getD,List.getElem?_eq_none (by omega)];simp;exact hB
theorem To_limb (k:Nat) (l D:List Int) (s:Bool) (i:Nat) (hD:D.length≤8388608) (hl:l.length≤8388608) (hd:Dig 65536 D) (hi:i<D.length) :
  ∃x,0≤x∧x<18446744073709551616∧val 65536 (D.take (i+4))=val 65536 (D.take i)+65536^i*x∧tribunalref02_To.l1 (k+5) l (i:Int) 0 3 s D=tribunalref02_To.l0 k (l++[x]) ((i+4:Nat):Int) s D:=by
 have d0:=getD_dig (by decide) hd (i+0)
 have d1:=getD_dig (by decide) hd (i+1)
 have d2:=getD_dig (by decide) hd (i+2)
 have d3:=getD_dig (by decide) hd (i+3)
 refine⟨_,?_,?_,take4 D i hi,?_⟩
 ·omega
 ·omega
 have s3:=To_step (k+4) l D s i 3 0 hD hd (by omega) (by omega) (by omega)
 have s2:=To_step (k+3) l D s i 2 (0*65536+D.getD (i+3) 0) hD hd (by omega) (by omega) (by omega)
 have s1:=To_step (k+2) l D s i 1 ((0*65536+D.getD (i+3) 0)*65536+D.getD (i+2) 0) hD hd (by omega) (by omega) (by omega)
 have s0:=To_step (k+1) l D s i 0 (((0*65536+D.getD (i+3) 0)*65536+D.getD (i+2) 0)*65536+D.getD (i+1) 0) hD hd (by omega) (by omega) (by omega)
 rw[show((3:Nat):Int)=3 from rfl,show(3:Int)-1=2 from rfl]at s3
 rw[show((2:Nat):Int)=2 from rfl,show(2:Int)-1=1 from rfl]at s2
 rw[show((1:Nat):Int)=1 from rfl,show(1:Int)-1=0 from rfl]at s1
 rw[show((0:Nat):Int)=0 from rfl]at s0
 rw[s3,s2,s1,s0,tribunalref02_To.l1,if_neg (by omega),if_pos (by omega),w64 _ (by omega),show((i+4:Nat):Int)=(i:Int)+4 from by omega]
theorem To_l0 (D:List Int) (s:Bool) (hD:D.length≤8388608) (hd:Dig 65536 D):∀(n i:Nat) (l:List Int),D.length≤i+n→i=4*l.length→i<D.length+4→Dig 18446744073709551616 l→val 18446744073709551616 l=val 65536 (D.take i) →
  ∃r,Ev (fun k=>tribunalref02_To.l0 k l (i:Int) s D) (s,r)∧Dig 18446744073709551616 r∧val 18446744073709551616 r=val 65536 D∧D.length≤4*r.length∧4*r.length<D.length+4:=by
 intro n
 induction n using Nat.strongRecOn with
 | ind n ih=>
  intro i l hn hi hi4 hdl hv
  by_cases h:i<D.length
  ·obtain⟨m,rfl⟩:∃m,n=m+1:=⟨n-1,by omega⟩
   have hx:=fun k=>To_limb k l D s i hD (by omega) hd h
   obtain⟨x,hx0,hx1,hxv,_⟩:=hx 0
   have hxk:∀k,tribunalref02_To.l1 (k+5) l (i:Int) 0 3 s D=tribunalref02_To.l0 k (l++[x]) ((i+4:Nat):Int) s D:=fun k=>by
    obtain⟨x',h0',h1',hv',he⟩:=hx k
    have:x'=x:=by
     have e:(65536:Int)^i*x'=65536^i*x:=by omega
     exact Int.eq_of_mul_eq_mul_left (Int.ne_of_gt (pow_pos (by decide) i)) e
    rw[he,this]
   obtain⟨r,⟨K,hr⟩,hq⟩:=ih (m+1-4) (by omega) (i+4) (l++[x]) (by omega) (by simp;omega) (by omega) (Dig.append.2 ⟨hdl,by rw[Dig.cons];exact⟨⟨hx0,hx1⟩,Dig.nil⟩⟩)
    (by rw[val_snoc,hv,hxv,hi,pow4,Int.pow_mul,Int.mul_comm])
   refine⟨r,⟨K+6,fun k hk=>?_⟩,hq⟩
   obtain⟨k,rfl⟩:∃j,k=j+6:=⟨k-6,by omega⟩
   show tribunalref02_To.l0 (k+5+1) l (i:Int) s D=_
   rw[tribunalref02_To.l0,if_pos (by omega),hxk]
   exact hr k (by omega)
  refine⟨l,⟨1,fun k hk=>?_⟩,hdl,by rw[hv,List.take_of_length_le (by omega)],by omega,by omega⟩
  obtain⟨k,rfl⟩:∃j,k=j+1:=⟨k-1,by omega⟩
  show tribunalref02_To.l0 (k+1) l (i:Int) s D=_
  rw[tribunalref02_To.l0,if_neg (by omega)]
theorem To_ev (D:List Int) (s:Bool) (hD:D.length≤8388608) (hd:Dig 65536 D) (ht:Top D) :
  ∃r,Ev (fun k=>tribunalref02_To.f k s D) (s,r)∧Dig 18446744073709551616 r∧Top r∧val 18446744073709551616 r=val 65536 D∧D.length≤4*r.length∧4*r.length<D.length+4:=by
 obtain⟨r,hr,h1,h2,h3,h4⟩:=To_l0 D s hD hd D.length 0 [] (by omega) rfl (by omega) Dig.nil rfl
 refine⟨r,hr,h1,?_,h2,h3,h4⟩
 rw[Top_iff]
 intro hne h0
 have hlen:0<r.length:=List.length_pos_iff.2 hne
 have hDne:D≠[]:=by intro e;rw[e]at h4;simp at h4;omega
 have hlow:=low (B:=65536) (by decide) hd ht hDne
 have e:r=r.take (r.length-1)++[0]:=by
  conv=>lhs;rw[←List.dropLast_concat_getLast hne,h0]
  rw[List.dropLast_eq_take]
 have hv:val 18446744073709551616 r=val 18446744073709551616 (r.take (r.length-1)):=by
  conv=>lhs;rw[e]
  rw[val_snoc];simp
 have hlt:=val_lt (B:=18446744073709551616) (by decide) (h1.take (r.length-1))
 rw[List.length_take,Nat.min_eq_left (by omega),pow4,←Int.pow_mul]at hlt
 rw[pow4]at hv h2
 have hmono:(65536:Int)^(4*(r.length-1))≤65536^(D.length-1):=by
  have:4*(r.length-1)≤D.length-1:=by omega
  obtain⟨c,hc⟩:=Nat.exists_eq_add_of_le this
  rw[hc,Int.pow_add]
  have h1:=pow_pos (B:=65536) (by decide) (4*(r.length-1))
  have h2:=pow_pos (B:=65536) (by decide) c
  have:=Int.mul_le_mul_of_nonneg_left (show(1:Int)≤65536^c by omega) (Int.le_of_lt h1)
  omega
 omega
end Go.Proofs.YtikencoikigllaaGreatDoor.PurePRy
namespace Go.Proofs.YtikencoikigllaaGreatDoor.Big
structure Num (B n:Int) (s:Bool) (l:List Int):Prop where
 rep:Rep B (n.natAbs:Int) l
 sign:s=decide (n<0)
theorem Num.uniq {B n:Int} {s t:Bool} {l m:List Int} (hB:1<B) (h:Num B n s l) (g:Num B n t m):t=s∧m=l:=
 ⟨g.sign.trans h.sign.symm,g.rep.uniq hB h.rep⟩
theorem Rep.pos_iff {B n:Int} (hB:0<B) {a:List Int} (ha:Rep B n a):0<a.length↔0<n:=by
 have h:=ha.nil_iff hB
 have h1:=ha.nonneg hB
 rw[List.length_pos_iff,Ne,h]
 omega
theorem Num.of_rep {B v:Int} (hB:0<B) {l:List Int} (h:Rep B v l) (b:Bool):Num B (if b then -v else v) (b&&decide (0<l.length)) l:=by
 have h1:=h.nonneg hB
 have h2:=h.pos_iff hB
 refine⟨?_,?_⟩
 ·have e:(((if b then -v else v):Int).natAbs:Int)=v:=by cases b<;>simp<;>omega
  rw[e];exact h
 cases b
 ·simp;omega
 simp only[Bool.true_and,if_true]
 by_cases h3:0<l.length
 ·have:=h2.1 h3;simp[h3];omega
 have:¬0<v:=fun g=>h3 (h2.2 g)
 simp[h3];omega
theorem Num.of_rep' {B v:Int} (hB:0<B) {l:List Int} (h:Rep B v l) (b:Bool) {n:Int} (hn:n=if b then -v else v):Num B n (b&&decide (0<l.length)) l:=hn ▸ Num.of_rep hB h b
def sg (n:Int):Int:=if n<0 then -1 else if n=0 then 0 else 1
theorem sg_neg {n:Int} (h:n<0):sg n = -1:=by unfold sg;rw[if_pos h]
theorem sg_zero {n:Int} (h:n=0):sg n=0:=by unfold sg;rw[if_neg (by omega),if_pos h]
theorem sg_pos {n:Int} (h:0<n):sg n=1:=by unfold sg;rw[if_neg (by omega),if_neg (by omega)]
theorem lt_of_len {B:Int} (hB:0<B) {a b:List Int} (da:Dig B a) (db:Dig B b) (tb:Top b) (h:a.length<b.length):val B a<val B b:=by
 have h1:=val_lt hB da
 have hne:b≠[]:=by intro e;rw[e]at h;simp at h
 have h2:=low hB db tb hne
 have h4:B^a.length≤B^(b.length-1):=by
  obtain⟨c,hc⟩:=Nat.exists_eq_add_of_le (show a.length≤b.length-1 by omega)
  rw[hc,Int.pow_add]
  have g1:=pow_pos hB a.length
  have g2:=pow_pos hB c
  have:=Int.mul_le_mul_of_nonneg_left (show(1:Int)≤B^c by omega) (Int.le_of_lt g1)
  omega
 omega
theorem lt_of_top {B:Int} (hB:0<B) {a b:List Int} (da:Dig B a) (db:Dig B b) (n:Nat) (ha:n<a.length) (hb:n<b.length) (h:a[n]<b[n]):val B (a.take (n+1))<val B (b.take (n+1)):=by
 rw[val_take_succ B a n ha,val_take_succ B b n hb]
 have h1:=val_lt hB (da.take n)
 rw[List.length_take,Nat.min_eq_left (by omega)]at h1
 have h2:=val_nonneg hB (db.take n)
 have h3:=Int.mul_le_mul_of_nonneg_right (show a[n]+1≤b[n] by omega) (Int.le_of_lt (pow_pos hB n))
 rw[Int.add_mul,Int.one_mul]at h3
 omega
theorem add_step (V c c' s x y X Y P B:Int) (hs:c'*B+s=x+y+c) (hv:V+c*P=X+Y):(V+s*P)+c'*(P*B)=(X+x*P)+(Y+y*P):=by
 have h1:c'*(P*B)+s*P=(c'*B+s)*P:=by rw[Int.add_mul,Int.mul_assoc,Int.mul_comm P B]
 rw[hs,Int.add_mul,Int.add_mul]at h1
 omega
theorem sub_step (V c c' s x y X Y P B:Int) (hs:s-c'*B=x-y-c) (hv:V-c*P=X-Y):(V+s*P)-c'*(P*B)=(X+x*P)-(Y+y*P):=by
 have h1:s*P-c'*(P*B)=(s-c'*B)*P:=by rw[Int.sub_mul,Int.mul_assoc,Int.mul_comm P B]
 rw[hs,Int.sub_mul,Int.sub_mul]at h1
 omega
theorem val_take_getD (B:Int) (l:List Int) (i:Nat):val B (l.take (i+1))=val B (l.take i)+l.getD i 0*B^i:=by
 by_cases h:i<l.length
 ·rw[val_take_succ B l i h,List.getD_eq_getElem?_getD,List.getElem?_eq_getElem h,Option.getD_some]
 rw[List.take_of_length_le (by omega),List.take_of_length_le (by omega),List.getD_eq_getElem?_getD,List.getElem?_eq_none (by omega),Option.getD_none,Int.zero_mul,Int.add_zero]
end Go.Proofs.YtikencoikigllaaGreatDoor.Big
namespace Go.Proofs.YtikencoikigllaaGreatDoor.PurePRy
set_option linter.unusedVariables false
set_option linter.unusedSimpArgs false
open Go.RowKit Go.Proofs.YtikencoikigllaaGreatDoorW.PrintWords Go.Proofs.YtikencoikigllaaGreatDoorW.PrintLast Go.Proofs.YtikencoikigllaaGreatDoorW.PrintMore Go.Proofs.YtikencoikigllaaGreatDoor.PRy Go.Proofs.YtikencoikigllaaGreatDoor Go.Proofs.YtikencoikigllaaGreatDoor.Mine Big
theorem pow_le_pow {B:Int} (hB:0<B) {m n:Nat} (h:m≤n):B^m≤B^n:=by
 obtain⟨c,rfl⟩:=Nat.exists_eq_add_of_le h
 rw[Int.pow_add]
 have g1:=pow_pos hB m
 have g2:=pow_pos hB c
 have:=Int.mul_le_mul_of_nonneg_left (show(1:Int)≤B^c by omega) (Int.le_of_lt g1)
 omega
theorem rep_len {B v:Int} (hB:0<B) {r:List Int} (h:Rep B v r) {m:Nat} (hv:v<B^m):r.length≤m:=by
 refine Classical.byContradiction fun hc=>?_
 have hne:r≠[]:=by intro e;rw[e]at hc;simp at hc
 have h1:=h.low hB hne
 have h2:=pow_le_pow hB (show m≤r.length-1 by omega)
 omega
theorem len4 {l d:List Int} {v:Int} (hl:Dig 18446744073709551616 l) (hv:val 18446744073709551616 l=v) (h:Rep 65536 v d):d.length≤4*l.length:=by
 by_cases hne:d=[]
 ·rw[hne];simp
 have h1:=h.low (by decide) hne
 have h2:=val_lt (B:=18446744073709551616) (by decide) hl
 rw[hv,pow4,←Int.pow_mul]at h2
 refine Classical.byContradiction fun hc=>?_
 have h4:(65536:Int)^(4*l.length)≤65536^(d.length-1):=by
  obtain⟨c,hc⟩:=Nat.exists_eq_add_of_le (show 4*l.length≤d.length-1 by omega)
  rw[hc,Int.pow_add]
  have g1:=pow_pos (B:=65536) (by decide) (4*l.length)
  have g2:=pow_pos (B:=65536) (by decide) c
  have:=Int.mul_le_mul_of_nonneg_left (show(1:Int)≤65536^c by omega) (Int.le_of_lt g1)
  omega
 omega
theorem arg_num (s:Bool) (l:List Int) (hl:l.length≤1048576) (hd:Dig 18446744073709551616 l):∃(n:Int) (t:Bool) (r d:List Int),
  Ev (fun k=>whole_of.f k s l) (r,t)∧Ev (fun k=>tribunalref02_From.f k s l) (t,d)∧Num 18446744073709551616 n t r∧Num 65536 n t d∧r.length≤l.length∧d.length≤4*l.length:=by
 obtain⟨r,hr,hrl,hrd,hrt,hrv⟩:=of_ev s l hl hd
 obtain⟨d,hdE,hdd,hdt,hdv⟩:=From_ev s l hl hd
 have R1:Rep 18446744073709551616 (val 18446744073709551616 l) r:=⟨hrd,hrt,hrv⟩
 have R2:Rep 65536 (val 18446744073709551616 l) d:=⟨hdd,hdt,hdv⟩
 have N1:=Num.of_rep (by decide) R1 s
 have N2:=Num.of_rep (by decide) R2 s
 have e:(s&&decide (0<d.length))=(s&&decide (0<r.length)):=N2.sign.trans N1.sign.symm
 refine⟨_,_,r,d,hr,?_,N1,e ▸ N2,hrl,len4 hd rfl R2⟩
 rw[←e];exact hdE
theorem signed_eq (m:List Int) (b:Bool):whole_signed.f m b=some (m,b&&decide (0<m.length)):=by
 cases b
 ·simp[whole_signed.f]
 simp only[whole_signed.f,whole_amount_null.f,Option.bind_some,if_true]
 congr 2
 cases m<;>simp<;>omega
theorem dig_of_wf {l:List Int} (h:∀z∈l,(Lit.int .u64 z).wf=true):Dig 18446744073709551616 l:=fun z hz=>by
 have:=Go.bounds_u64 (h z hz)
 omega
theorem whole_amount_cmp_l0 (a b:List Int) (hl:a.length≤8388608) (hab:a.length=b.length) (da:Dig 18446744073709551616 a) (db:Dig 18446744073709551616 b):∀(n k:Nat) (i:Int),n≤a.length→n<k→i=(n:Int)-1→whole_amount_cmp.l0 k a b i=some (sg (val 18446744073709551616 (a.take n)-val 18446744073709551616 (b.take n))):=by
 intro n
 induction n with
 | zero=>
  intro k i _ hk hi
  obtain⟨k,rfl⟩:∃j,k=j+1:=⟨k-1,by omega⟩
  rw[whole_amount_cmp.l0,if_neg (by omega),sg_zero (by simp)]
 | succ n ih=>
  intro k i hn hk hi
  obtain⟨k,rfl⟩:∃j,k=j+1:=⟨k-1,by omega⟩
  have hi':i=(n:Int):=by omega
  subst hi'
  have hna:n<a.length:=by omega
  have hnb:n<b.length:=by omega
  rw[whole_amount_cmp.l0,if_pos (by omega),if_pos (by omega),if_pos (by omega),if_pos (by omega),rd_nat a n hna,rd_nat b n hnb]
  rcases Int.lt_trichotomy a[n] b[n] with h|h|h
  ·have:=lt_of_top (by decide) da db n hna hnb h
   rw[if_neg (by omega),if_pos h]
   rw[sg_neg (by omega)]
  ·rw[if_pos h]
   rw[w64 _ (by omega),ih k _ (by omega) (by omega) rfl,val_take_succ 18446744073709551616 a n hna,val_take_succ 18446744073709551616 b n hnb,h]
   congr 2
   omega
  have:=lt_of_top (by decide) db da n hnb hna h
  rw[if_neg (by omega),if_neg (by omega)]
  rw[sg_pos (by omega)]
theorem whole_amount_cmp_ev (a b:List Int) (ha:a.length≤8388608) (hb:b.length≤8388608) (da:Dig 18446744073709551616 a) (db:Dig 18446744073709551616 b) (ta:Top a) (tb:Top b):Ev (fun k=>whole_amount_cmp.f k a b) (sg (val 18446744073709551616 a-val 18446744073709551616 b)):=by
 refine⟨a.length+1,fun k hk=>?_⟩
 show whole_amount_cmp.f k a b=_
 rw[whole_amount_cmp.f]
 rcases Nat.lt_trichotomy a.length b.length with h|h|h
 ·have:=lt_of_len (by decide) da db tb h
  rw[if_neg (by omega),if_pos (by omega),sg_neg (by omega)]
 ·rw[if_pos (by omega),w64 _ (by omega),whole_amount_cmp_l0 a b ha h da db a.length k _ (Nat.le_refl _) (by omega) rfl,List.take_length,h,List.take_length]
 have:=lt_of_len (by decide) db da ta h
 rw[if_neg (by omega),if_neg (by omega),sg_pos (by omega)]
theorem tribunalref02_cmpD_l0 (a b:List Int) (hl:a.length≤8388608) (hab:a.length=b.length) (da:Dig 65536 a) (db:Dig 65536 b):∀(n k:Nat) (i:Int),n≤a.length→n<k→i=(n:Int)-1→tribunalref02_cmpD.l0 k a b i=some (sg (val 65536 (a.take n)-val 65536 (b.take n))):=by
 intro n
 induction n with
 | zero=>
  intro k i _ hk hi
  obtain⟨k,rfl⟩:∃j,k=j+1:=⟨k-1,by omega⟩
  rw[tribunalref02_cmpD.l0,if_neg (by omega),sg_zero (by simp)]
 | succ n ih=>
  intro k i hn hk hi
  obtain⟨k,rfl⟩:∃j,k=j+1:=⟨k-1,by omega⟩
  have hi':i=(n:Int):=by omega
  subst hi'
  have hna:n<a.length:=by omega
  have hnb:n<b.length:=by omega
  rw[tribunalref02_cmpD.l0,if_pos (by omega),if_pos (by omega),if_pos (by omega),if_pos (by omega),rd_nat a n hna,rd_nat b n hnb]
  rcases Int.lt_trichotomy a[n] b[n] with h|h|h
  ·have:=lt_of_top (by decide) da db n hna hnb h
   rw[if_pos h]
   rw[sg_neg (by omega)]
  ·rw[if_neg (by omega),if_neg (by omega)]
   rw[w64 _ (by omega),ih k _ (by omega) (by omega) rfl,val_take_succ 65536 a n hna,val_take_succ 65536 b n hnb,h]
   congr 2
   omega
  have:=lt_of_top (by decide) db da n hnb hna h
  rw[if_neg (by omega),if_pos h]
  rw[sg_pos (by omega)]
theorem tribunalref02_cmpD_ev (a b:List Int) (ha:a.length≤8388608) (hb:b.length≤8388608) (da:Dig 65536 a) (db:Dig 65536 b) (ta:Top a) (tb:Top b):Ev (fun k=>tribunalref02_cmpD.f k a b) (sg (val 65536 a-val 65536 b)):=by
 refine⟨a.length+1,fun k hk=>?_⟩
 show tribunalref02_cmpD.f k a b=_
 rw[tribunalref02_cmpD.f]
 rcases Nat.lt_trichotomy a.length b.length with h|h|h
 ·have:=lt_of_len (by decide) da db tb h
  rw[if_neg (by omega),if_pos (by omega),sg_neg (by omega)]
 ·rw[if_pos (by omega),w64 _ (by omega),tribunalref02_cmpD_l0 a b ha h da db a.length k _ (Nat.le_refl _) (by omega) rfl,List.take_length,h,List.take_length]
 have:=lt_of_len (by decide) db da ta h
 rw[if_neg (by omega),if_neg (by omega),sg_pos (by omega)]
theorem rd_getD (l:List Int) (n:Nat):rd l (n:Int)=l.getD n 0:=by simp[rd]
theorem getD_ge (l:List Int) (n:Nat) (h:l.length≤n):l.getD n 0=0:=by
 rw[List.getD_eq_getElem?_getD,List.getElem?_eq_none h,Option.getD_none]
theorem Add64_eq (x y c:Int) (hx:0≤x) (hy:0≤y) (hc:0≤c∧c≤1):bits_Add64.f x y c=some ((x+y+c)%18446744073709551616,(x+y+c)/18446744073709551616):=by
 rw[bits_Add64.f,if_pos ⟨hx,hy,hc.1,hc.2⟩]
theorem Sub64_eq (x y c:Int) (hx:0≤x) (hy:0≤y∧y<18446744073709551616) (hc:0≤c∧c≤1):bits_Sub64.f x y c=some ((x-y-c)%18446744073709551616,if x<y+c then 1 else 0):=by
 rw[bits_Sub64.f,if_pos ⟨hx,hy.1,hy.2,hc.1,hc.2⟩]
theorem plus_step (k:Nat) (a b out:List Int) (c:Int) (i:Nat) (hi:i<a.length) (hl:a.length≤8388608) (ho:out.length=i) (da:Dig 18446744073709551616 a) (db:Dig 18446744073709551616 b) (hc:0≤c∧c≤1) :
  whole_amount_plus.l0 (k+1) a b out c (a.length:Int) (i:Int)=whole_amount_plus.l0 k a b (out++[(a.getD i 0+b.getD i 0+c)%18446744073709551616]) ((a.getD i 0+b.getD i 0+c)/18446744073709551616) (a.length:Int) ((i+1:Nat):Int):=by
 have ga:=getD_dig (by decide) da i
 have gb:=getD_dig (by decide) db i
 rw[whole_amount_plus.l0,if_pos (by omega),rd_getD,rd_getD,show wrap64 ((i:Int)+1)=((i+1:Nat):Int) from by rw[w64 _ (by omega)];omega]
 by_cases h:(i:Int)<(b.length:Int)
 ·rw[if_pos h,if_pos (by omega),if_pos (by omega),Add64_eq _ _ _ ga.1 gb.1 hc,Option.bind_some,if_pos (by omega)]
 rw[if_neg h,if_pos (by omega),if_pos (by omega),Add64_eq _ _ _ ga.1 (by decide) hc,Option.bind_some,if_pos (by omega),getD_ge b i (by omega)]
theorem plus_l0 (a b:List Int) (hl:a.length≤8388608) (hb:b.length≤a.length) (da:Dig 18446744073709551616 a) (db:Dig 18446744073709551616 b):∀(n i:Nat) (out:List Int) (c:Int),i+n=a.length→out.length=i→Dig 18446744073709551616 out→0≤c∧c≤1→val 18446744073709551616 out+c*18446744073709551616^i=val 18446744073709551616 (a.take i)+val 18446744073709551616 (b.take i) →
  ∃r,Ev (fun k=>whole_amount_plus.l0 k a b out c (a.length:Int) (i:Int)) r∧Rep 18446744073709551616 (val 18446744073709551616 a+val 18446744073709551616 b) r:=by
 intro n
 induction n with
 | zero=>
  intro i out c hi ho hd hc hv
  obtain⟨r,⟨K,hr⟩,h1,h2,h3⟩:=whole_trimmed_ev (B:=18446744073709551616) (l:=out++[c]) (by simp;omega) (Dig.append.2 ⟨hd,by rw[Dig.cons];exact⟨⟨hc.1,by omega⟩,Dig.nil⟩⟩)
  refine⟨r,⟨K+1,fun k hk=>?_⟩,h1,h2,?_⟩
  ·obtain⟨k,rfl⟩:∃j,k=j+1:=⟨k-1,by omega⟩
   have hk':whole_trimmed.f k (out++[c])=some r:=hr k (by omega)
   show whole_amount_plus.l0 (k+1) a b out c (a.length:Int) (i:Int)=some r
   rw[whole_amount_plus.l0,if_neg (by omega),if_pos (by omega),hk',Option.bind_some]
  rw[h3,val_snoc,ho,hv,List.take_of_length_le (by omega),List.take_of_length_le (by omega)]
 | succ n ih=>
  intro i out c hi ho hd hc hv
  have hil:i<a.length:=by omega
  have ga:=getD_dig (by decide) da i
  have gb:=getD_dig (by decide) db i
  obtain⟨r,⟨K,hr⟩,hq⟩:=ih (i+1) (out++[(a.getD i 0+b.getD i 0+c)%18446744073709551616]) ((a.getD i 0+b.getD i 0+c)/18446744073709551616) (by omega) (by simp;omega)
   (Dig.append.2 ⟨hd,by rw[Dig.cons];exact⟨by omega,Dig.nil⟩⟩) (by omega)
   (by rw[val_snoc,ho,val_take_getD,val_take_getD,Int.pow_succ];exact add_step _ c _ _ _ _ _ _ _ _ (by omega) hv)
  refine⟨r,⟨K+1,fun k hk=>?_⟩,hq⟩
  obtain⟨k,rfl⟩:∃j,k=j+1:=⟨k-1,by omega⟩
  show whole_amount_plus.l0 (k+1) a b out c (a.length:Int) (i:Int)=some r
  rw[plus_step k a b out c i hil hl ho da db hc]
  exact hr k (by omega)
theorem plus_j0 (a b:List Int) (hl:a.length≤8388600) (hb:b.length≤a.length) (da:Dig 18446744073709551616 a) (db:Dig 18446744073709551616 b) :
  ∃r,Ev (fun k=>whole_amount_plus.j0 k a b) r∧Rep 18446744073709551616 (val 18446744073709551616 a+val 18446744073709551616 b) r:=by
 obtain⟨r,⟨K,hr⟩,hq⟩:=plus_l0 a b (by omega) hb da db a.length 0 [] 0 (by omega) rfl Dig.nil (by omega) (by simp[val])
 refine⟨r,⟨K+1,fun k hk=>?_⟩,hq⟩
 obtain⟨k,rfl⟩:∃j,k=j+1:=⟨k-1,by omega⟩
 show whole_amount_plus.j0 (k+1) a b=some r
 have hw:wrap64 ((a.length:Int)+1)=((a.length+1:Nat):Int):=by rw[w64 _ (by omega)];omega
 rw[whole_amount_plus.j0,hw,if_pos (by omega),Int.toNat_natCast,if_pos (by omega)]
 exact hr k (by omega)
theorem plus_ev (a b:List Int) (ha:a.length≤8388600) (hb:b.length≤8388600) (da:Dig 18446744073709551616 a) (db:Dig 18446744073709551616 b) :
  ∃r,Ev (fun k=>whole_amount_plus.f k a b) r∧Rep 18446744073709551616 (val 18446744073709551616 a+val 18446744073709551616 b) r:=by
 by_cases h:a.length<b.length
 ·obtain⟨r,⟨K,hr⟩,hq⟩:=plus_j0 b a hb (by omega) db da
  refine⟨r,⟨K,fun k hk=>?_⟩,by rw[Int.add_comm];exact hq⟩
  show whole_amount_plus.f k a b=some r
  rw[whole_amount_plus.f,if_pos (by omega)]
  exact hr k hk
 obtain⟨r,⟨K,hr⟩,hq⟩:=plus_j0 a b ha (by omega) da db
 refine⟨r,⟨K,fun k hk=>?_⟩,hq⟩
 show whole_amount_plus.f k a b=some r
 rw[whole_amount_plus.f,if_neg (by omega)]
 exact hr k hk
theorem num_len {B n m u:Int} (hB:2≤B) {s t x:Bool} {a b r:List Int} (ha:Num B n s a) (hb:Num B m t b) (hr:Num B u x r) (hu:(u.natAbs:Int)≤n.natAbs+m.natAbs) {L:Nat} (la:a.length≤L) (lb:b.length≤L):r.length≤L+1:=by
 refine rep_len (by omega) hr.rep ?_
 have h1:=ha.rep.lt (by omega)
 have h2:=hb.rep.lt (by omega)
 have h3:=pow_le_pow (B:=B) (by omega) la
 have h4:=pow_le_pow (B:=B) (by omega) lb
 rw[Int.pow_succ]
 have h5:=pow_pos (B:=B) (by omega) L
 have h6:=Int.mul_le_mul_of_nonneg_left hB (Int.le_of_lt h5)
 omega
theorem cmp_num {n m:Int} {s t:Bool} {a b:List Int} (ha:Num 18446744073709551616 n s a) (hb:Num 18446744073709551616 m t b) (la:a.length≤8388608) (lb:b.length≤8388608):Ev (fun k=>whole_number_cmp.f k a s b t) (sg (n-m)):=by
 obtain⟨K1,h1⟩:=whole_amount_cmp_ev a b la lb ha.rep.dig hb.rep.dig ha.rep.top hb.rep.top
 obtain⟨K2,h2⟩:=whole_amount_cmp_ev b a lb la hb.rep.dig ha.rep.dig hb.rep.top ha.rep.top
 rw[ha.rep.val,hb.rep.val]at h1 h2
 refine⟨max K1 K2+2,fun k hk=>?_⟩
 obtain⟨k,rfl⟩:∃j,k=j+2:=⟨k-2,by omega⟩
 have g1:whole_amount_cmp.f k a b=_:=h1 k (by omega)
 have g2:whole_amount_cmp.f k b a=_:=h2 k (by omega)
 have e1:=ha.sign
 have e2:=hb.sign
 show whole_number_cmp.f (k+1+1) a s b t=_
 rw[whole_number_cmp.f]
 cases s with
 | true=>
  have hn:n<0:=of_decide_eq_true e1.symm
  cases t with
  | true=>
   have hm:m<0:=of_decide_eq_true e2.symm
   rw[if_pos rfl,whole_number_cmp.j0,if_neg (by decide),if_pos rfl,whole_number_cmp.j1,if_neg (by decide),if_pos rfl,g2,Option.bind_some]
   congr 2;omega
  | false=>
   have hm:¬m<0:=of_decide_eq_false e2.symm
   rw[if_pos rfl,whole_number_cmp.j0,if_pos (by decide),sg_neg (by omega)]
 | false=>
  have hn:¬n<0:=of_decide_eq_false e1.symm
  cases t with
  | true=>
   have hm:m<0:=of_decide_eq_true e2.symm
   rw[if_neg (by decide),whole_number_cmp.j0,if_neg (by decide),if_neg (by decide),whole_number_cmp.j1,if_pos rfl,sg_pos (by omega)]
  | false=>
   have hm:¬m<0:=of_decide_eq_false e2.symm
   rw[if_neg (by decide),whole_number_cmp.j0,if_neg (by decide),if_neg (by decide),whole_number_cmp.j1,if_neg (by decide),if_neg (by decide),g1,Option.bind_some]
   congr 2;omega
theorem sg_ge {n:Int}:sg n≥0↔0≤n:=by unfold sg;split<;>(try split)<;>omega
theorem len_of_le {B:Int} (hB:0<B) {a b:List Int} (da:Dig B a) (db:Dig B b) (tb:Top b) (h:val B b≤val B a):b.length≤a.length:=by
 refine Classical.byContradiction fun hc=>?_
 have:=lt_of_len hB da db tb (by omega)
 omega
theorem minus_step (k:Nat) (a b out:List Int) (c:Int) (i:Nat) (hi:i<a.length) (hl:a.length≤8388608) (ho:out.length=i) (da:Dig 18446744073709551616 a) (db:Dig 18446744073709551616 b) (hc:0≤c∧c≤1) :
  whole_amount_minus.l0 (k+1) a b out c (a.length:Int) (i:Int)=whole_amount_minus.l0 k a b (out++[(a.getD i 0-b.getD i 0-c)%18446744073709551616]) (if a.getD i 0<b.getD i 0+c then 1 else 0) (a.length:Int) ((i+1:Nat):Int):=by
 have ga:=getD_dig (by decide) da i
 have gb:=getD_dig (by decide) db i
 rw[whole_amount_minus.l0,if_pos (by omega),rd_getD,rd_getD,show wrap64 ((i:Int)+1)=((i+1:Nat):Int) from by rw[w64 _ (by omega)];omega]
 by_cases h:(i:Int)<(b.length:Int)
 ·rw[if_pos h,if_pos (by omega),if_pos (by omega),Sub64_eq _ _ _ ga.1 gb hc,Option.bind_some,if_pos (by omega)]
 rw[if_neg h,if_pos (by omega),if_pos (by omega),Sub64_eq _ _ _ ga.1 (by decide) hc,Option.bind_some,if_pos (by omega),getD_ge b i (by omega)]
theorem borrow_none {V c P X Y:Int} (hV:0≤V∧V<P) (hc:0≤c∧c≤1) (hle:Y≤X) (h:V-c*P=X-Y):V=X-Y:=by
 have:c=0∨c=1:=by omega
 rcases this with h1|h1
 ·rw[h1]at h;omega
 rw[h1]at h;omega
theorem minus_l0 (a b:List Int) (hl:a.length≤8388608) (hb:b.length≤a.length) (hle:val 18446744073709551616 b≤val 18446744073709551616 a) (da:Dig 18446744073709551616 a) (db:Dig 18446744073709551616 b):∀(n i:Nat) (out:List Int) (c:Int),i+n=a.length→out.length=i→Dig 18446744073709551616 out→0≤c∧c≤1→val 18446744073709551616 out-c*18446744073709551616^i=val 18446744073709551616 (a.take i)-val 18446744073709551616 (b.take i) →
  ∃r,Ev (fun k=>whole_amount_minus.l0 k a b out c (a.length:Int) (i:Int)) r∧Rep 18446744073709551616 (val 18446744073709551616 a-val 18446744073709551616 b) r:=by
 intro n
 induction n with
 | zero=>
  intro i out c hi ho hd hc hv
  obtain⟨r,⟨K,hr⟩,h1,h2,h3⟩:=whole_trimmed_ev (B:=18446744073709551616) (l:=out) (by omega) hd
  refine⟨r,⟨K+1,fun k hk=>?_⟩,h1,h2,?_⟩
  ·obtain⟨k,rfl⟩:∃j,k=j+1:=⟨k-1,by omega⟩
   have hk':whole_trimmed.f k out=some r:=hr k (by omega)
   show whole_amount_minus.l0 (k+1) a b out c (a.length:Int) (i:Int)=some r
   rw[whole_amount_minus.l0,if_neg (by omega),hk',Option.bind_some]
  rw[h3]
  rw[List.take_of_length_le (by omega),List.take_of_length_le (by omega)]at hv
  have g1:=val_lt (B:=18446744073709551616) (by decide) hd
  have g2:=val_nonneg (B:=18446744073709551616) (by decide) hd
  rw[ho]at g1
  exact borrow_none ⟨g2,g1⟩ hc hle hv
 | succ n ih=>
  intro i out c hi ho hd hc hv
  have hil:i<a.length:=by omega
  have ga:=getD_dig (by decide) da i
  have gb:=getD_dig (by decide) db i
  obtain⟨r,⟨K,hr⟩,hq⟩:=ih (i+1) (out++[(a.getD i 0-b.getD i 0-c)%18446744073709551616]) (if a.getD i 0<b.getD i 0+c then 1 else 0) (by omega) (by simp;omega)
   (Dig.append.2 ⟨hd,by rw[Dig.cons];exact⟨by omega,Dig.nil⟩⟩) (by split<;>omega)
   (by rw[val_snoc,ho,val_take_getD,val_take_getD,Int.pow_succ];exact sub_step _ c _ _ _ _ _ _ _ _ (by split<;>omega) hv)
  refine⟨r,⟨K+1,fun k hk=>?_⟩,hq⟩
  obtain⟨k,rfl⟩:∃j,k=j+1:=⟨k-1,by omega⟩
  show whole_amount_minus.l0 (k+1) a b out c (a.length:Int) (i:Int)=some r
  rw[minus_step k a b out c i hil hl ho da db hc]
  exact hr k (by omega)
theorem minus_ev (a b:List Int) (ha:a.length≤8388608) (hb:b.length≤a.length) (hle:val 18446744073709551616 b≤val 18446744073709551616 a) (da:Dig 18446744073709551616 a) (db:Dig 18446744073709551616 b) :
  ∃r,Ev (fun k=>whole_amount_minus.f k a b) r∧Rep 18446744073709551616 (val 18446744073709551616 a-val 18446744073709551616 b) r:=by
 obtain⟨r,⟨K,hr⟩,hq⟩:=minus_l0 a b ha hb hle da db a.length 0 [] 0 (by omega) rfl Dig.nil (by omega) (by simp[val])
 refine⟨r,⟨K,fun k hk=>?_⟩,hq⟩
 show whole_amount_minus.f k a b=some r
 rw[whole_amount_minus.f,if_pos (by omega),Int.toNat_natCast,if_pos (by omega)]
 exact hr k hk
theorem plus_num {n m:Int} {s t:Bool} {a b:List Int} (ha:Num 18446744073709551616 n s a) (hb:Num 18446744073709551616 m t b) (la:a.length≤8388600) (lb:b.length≤8388600) :
  ∃u r,Ev (fun k=>whole_number_plus.f k a s b t) (r,u)∧Num 18446744073709551616 (n+m) u r:=by
 have e1:=ha.sign
 have e2:=hb.sign
 by_cases hst:s=t
 ·obtain⟨r,⟨K,hr⟩,hR⟩:=plus_ev a b la lb ha.rep.dig hb.rep.dig
  rw[ha.rep.val,hb.rep.val]at hR
  refine⟨_,r,⟨K,fun k hk=>?_⟩,Num.of_rep' (by decide) hR s (by subst hst;cases s<;>simp at e1 e2 ⊢<;>omega)⟩
  have g:whole_amount_plus.f k a b=some r:=hr k hk
  show whole_number_plus.f k a s b t=_
  rw[whole_number_plus.f,if_pos (by rw[hst];exact beq_self_eq_true t),g,Option.bind_some,signed_eq,Option.bind_some]
 obtain⟨K1,h1⟩:=whole_amount_cmp_ev a b (by omega) (by omega) ha.rep.dig hb.rep.dig ha.rep.top hb.rep.top
 have hne:¬(s==t)=true:=by intro h;exact hst (eq_of_beq h)
 by_cases hle:val 18446744073709551616 b≤val 18446744073709551616 a
 ·obtain⟨r,⟨K,hr⟩,hR⟩:=minus_ev a b (by omega) (len_of_le (by decide) ha.rep.dig hb.rep.dig hb.rep.top hle) hle ha.rep.dig hb.rep.dig
  have hle':=hle
  rw[ha.rep.val,hb.rep.val]at hR hle'
  refine⟨_,r,⟨max K K1,fun k hk=>?_⟩,Num.of_rep' (by decide) hR s (by cases s<;>cases t<;>simp at hst e1 e2 ⊢<;>omega)⟩
  have g:whole_amount_minus.f k a b=some r:=hr k (by omega)
  have g1:whole_amount_cmp.f k a b=_:=h1 k (by omega)
  show whole_number_plus.f k a s b t=_
  rw[whole_number_plus.f,if_neg hne,g1,Option.bind_some,if_pos (sg_ge.2 (by omega)),g,Option.bind_some,signed_eq,Option.bind_some]
 have hle2:val 18446744073709551616 a≤val 18446744073709551616 b:=by omega
 obtain⟨r,⟨K,hr⟩,hR⟩:=minus_ev b a (by omega) (len_of_le (by decide) hb.rep.dig ha.rep.dig ha.rep.top hle2) hle2 hb.rep.dig ha.rep.dig
 have hle':=hle2
 rw[ha.rep.val,hb.rep.val]at hR hle'
 refine⟨_,r,⟨max K K1,fun k hk=>?_⟩,Num.of_rep' (by decide) hR t (by cases s<;>cases t<;>simp at hst e1 e2 ⊢<;>omega)⟩
 have g:whole_amount_minus.f k b a=some r:=hr k (by omega)
 have g1:whole_amount_cmp.f k a b=_:=h1 k (by omega)
 show whole_number_plus.f k a s b t=_
 rw[whole_number_plus.f,if_neg hne,g1,Option.bind_some,if_neg (fun x=>hle (by have:=sg_ge.1 x;omega)),g,Option.bind_some,signed_eq,Option.bind_some]
theorem opposite_num {n:Int} {s:Bool} {a:List Int} (ha:Num 18446744073709551616 n s a):∃u,whole_number_opposite.f a s=some (a,u)∧Num 18446744073709551616 (-n) u a:=by
 have e1:=ha.sign
 refine⟨_,?_,Num.of_rep' (by decide) ha.rep (!s) (by cases s<;>simp at e1 ⊢<;>omega)⟩
 rw[whole_number_opposite.f,signed_eq,Option.bind_some]
theorem minus_num {n m:Int} {s t:Bool} {a b:List Int} (ha:Num 18446744073709551616 n s a) (hb:Num 18446744073709551616 m t b) (la:a.length≤8388600) (lb:b.length≤8388600) :
  ∃u r,Ev (fun k=>whole_number_minus.f k a s b t) (r,u)∧Num 18446744073709551616 (n-m) u r:=by
 obtain⟨v,hv,hb'⟩:=opposite_num hb
 obtain⟨u,r,⟨K,hr⟩,hR⟩:=plus_num ha hb' la lb
 refine⟨u,r,⟨K,fun k hk=>?_⟩,by rw[Int.sub_eq_add_neg];exact hR⟩
 have g:whole_number_plus.f k a s b v=_:=hr k hk
 show whole_number_minus.f k a s b t=_
 rw[whole_number_minus.f,hv,Option.bind_some,g,Option.bind_some]
theorem addD_step (k:Nat) (a b out:List Int) (c:Int) (i:Nat) (hi:i<a.length∨i<b.length∨0<c) (ha:a.length≤8388608) (hb:b.length≤8388608) (hi2:i≤8388608) (ho:out.length=i) (da:Dig 65536 a) (db:Dig 65536 b) (hc:0≤c∧c≤1) :
  tribunalref02_addD.l0 (k+2) a b out c (i:Int)=tribunalref02_addD.l0 k a b (out++[(a.getD i 0+b.getD i 0+c)%65536]) ((a.getD i 0+b.getD i 0+c)/65536) ((i+1:Nat):Int):=by
 have ga:=getD_dig (by decide) da i
 have gb:=getD_dig (by decide) db i
 have hw:wrap64 ((i:Int)+1)=((i+1:Nat):Int):=by rw[w64 _ (by omega)];omega
 have e1:tribunalref02_addD.l0 (k+1+1) a b out c (i:Int)=tribunalref02_addD.j1 (k+1) a b out c (i:Int) true:=by
  rw[tribunalref02_addD.l0]
  by_cases h1:(i:Int)<(a.length:Int)
  ·rw[if_pos h1]
  by_cases h2:(i:Int)<(b.length:Int)
  ·rw[if_neg h1,if_pos h2]
  rw[if_neg h1,if_neg h2,show decide (c>0)=true from by simp;omega]
 show tribunalref02_addD.l0 (k+1+1) a b out c (i:Int)=_
 rw[e1,tribunalref02_addD.j1,if_pos rfl,rd_getD,rd_getD,hw]
 by_cases h1:(i:Int)<(a.length:Int)
 ·by_cases h2:(i:Int)<(b.length:Int)
  ·have e:(c+a.getD i 0+b.getD i 0)%4294967296=a.getD i 0+b.getD i 0+c:=by omega
   rw[if_pos h1,if_pos (by omega),if_pos h2,if_pos (by omega),e,IntKind.wrap_u16]
  have e:(c+a.getD i 0)%4294967296=a.getD i 0+b.getD i 0+c:=by have:=getD_ge b i (by omega);omega
  rw[if_pos h1,if_pos (by omega),if_neg h2,if_pos (by omega),e,IntKind.wrap_u16]
 by_cases h2:(i:Int)<(b.length:Int)
 ·have e:(c+b.getD i 0)%4294967296=a.getD i 0+b.getD i 0+c:=by have:=getD_ge a i (by omega);omega
  rw[if_neg h1,if_pos h2,if_pos (by omega),if_pos (by omega),e,IntKind.wrap_u16]
 have e:a.getD i 0+b.getD i 0+c=c:=by have:=getD_ge a i (by omega);have:=getD_ge b i (by omega);omega
 rw[if_neg h1,if_neg h2,if_pos (by omega),e,IntKind.wrap_u16]
theorem addD_end (k:Nat) (a b out:List Int) (c:Int) (i:Nat) (h1:¬i<a.length) (h2:¬i<b.length) (h3:¬0<c):tribunalref02_addD.l0 (k+2) a b out c (i:Int)=some out:=by
 show tribunalref02_addD.l0 (k+1+1) a b out c (i:Int)=_
 rw[tribunalref02_addD.l0,if_neg (by omega),if_neg (by omega),show decide (c>0)=false from by simp;omega,tribunalref02_addD.j1,if_neg (by decide)]
theorem addD_l0 (a b:List Int) (ha:a.length≤8388600) (hb:b.length≤8388600) (da:Dig 65536 a) (db:Dig 65536 b):∀(n i:Nat) (out:List Int) (c:Int),2*(max a.length b.length-i)+c.toNat≤n→i≤max a.length b.length+1→(i≤max a.length b.length∨c=0)→out.length=i→Dig 65536 out→0≤c∧c≤1→val 65536 out+c*65536^i=val 65536 (a.take i)+val 65536 (b.take i) →
  ∃r,Ev (fun k=>tribunalref02_addD.l0 k a b out c (i:Int)) r∧Dig 65536 r∧val 65536 r=val 65536 a+val 65536 b∧r.length≤max a.length b.length+1:=by
 intro n
 induction n with
 | zero=>
  intro i out c hn him him2 ho hd hc hv
  refine⟨out,⟨2,fun k hk=>?_⟩,hd,?_,by omega⟩
  ·obtain⟨k,rfl⟩:∃j,k=j+2:=⟨k-2,by omega⟩
   exact addD_end k a b out c i (by omega) (by omega) (by omega)
  rw[List.take_of_length_le (by omega),List.take_of_length_le (by omega),show c=0 from by omega]at hv
  omega
 | succ n ih=>
  intro i out c hn him him2 ho hd hc hv
  by_cases h:i<a.length∨i<b.length∨0<c
  ·have ga:=getD_dig (by decide) da i
   have gb:=getD_dig (by decide) db i
   have hx:(a.length≤i→a.getD i 0=0):=getD_ge a i
   have hy:(b.length≤i→b.getD i 0=0):=getD_ge b i
   obtain⟨r,⟨K,hr⟩,hq⟩:=ih (i+1) (out++[(a.getD i 0+b.getD i 0+c)%65536]) ((a.getD i 0+b.getD i 0+c)/65536)
    (by by_cases h4:i<max a.length b.length
        ·omega
        have:=hx (by omega);have:=hy (by omega);omega)
    (by omega)
    (by by_cases h4:i<max a.length b.length
        ·omega
        have:=hx (by omega);have:=hy (by omega);omega)
    (by simp;omega)
    (Dig.append.2 ⟨hd,by rw[Dig.cons];exact⟨by omega,Dig.nil⟩⟩) (by omega)
    (by rw[val_snoc,ho,val_take_getD,val_take_getD,Int.pow_succ];exact add_step _ c _ _ _ _ _ _ _ _ (by omega) hv)
   refine⟨r,⟨K+2,fun k hk=>?_⟩,hq⟩
   obtain⟨k,rfl⟩:∃j,k=j+2:=⟨k-2,by omega⟩
   show tribunalref02_addD.l0 (k+2) a b out c (i:Int)=some r
   rw[addD_step k a b out c i h (by omega) (by omega) (by omega) ho da db hc]
   exact hr k (by omega)
  refine⟨out,⟨2,fun k hk=>?_⟩,hd,?_,by omega⟩
  ·obtain⟨k,rfl⟩:∃j,k=j+2:=⟨k-2,by omega⟩
   exact addD_end k a b out c i (by omega) (by omega) (by omega)
  rw[List.take_of_length_le (by omega),List.take_of_length_le (by omega),show c=0 from by omega]at hv
  omega
theorem addD_ev (a b:List Int) (ha:a.length≤8388600) (hb:b.length≤8388600) (da:Dig 65536 a) (db:Dig 65536 b) :
  ∃r,Ev (fun k=>tribunalref02_addD.f k a b) r∧Dig 65536 r∧val 65536 r=val 65536 a+val 65536 b∧r.length≤max a.length b.length+1:=by
 obtain⟨r,⟨K,hr⟩,hq⟩:=addD_l0 a b ha hb da db _ 0 [] 0 (Nat.le_refl _) (by omega) (.inr rfl) rfl Dig.nil (by omega) (by simp[val])
 refine⟨r,⟨K,fun k hk=>?_⟩,hq⟩
 show tribunalref02_addD.f k a b=some r
 rw[tribunalref02_addD.f]
 exact hr k hk
theorem w32 (n:Int) (h:-2147483648≤n∧n≤2147483647):wrap32 n=n:=by unfold wrap32;omega
theorem subD_step (k:Nat) (a b out:List Int) (c:Int) (i:Nat) (hi:i<a.length) (ha:a.length≤8388608) (ho:out.length=i) (da:Dig 65536 a) (db:Dig 65536 b) (hc:0≤c∧c≤1) :
  tribunalref02_subD.l0 (k+1) a b out c (i:Int)=tribunalref02_subD.l0 k a b (out++[(a.getD i 0-b.getD i 0-c)%65536]) (if a.getD i 0<b.getD i 0+c then 1 else 0) ((i+1:Nat):Int):=by
 have ga:=getD_dig (by decide) da i
 have gb:=getD_dig (by decide) db i
 have hw:wrap64 ((i:Int)+1)=((i+1:Nat):Int):=by rw[w64 _ (by omega)];omega
 rw[tribunalref02_subD.l0,rd_getD,rd_getD,hw,w32 (a.getD i 0) (by omega),w32 (b.getD i 0) (by omega),w32 (a.getD i 0-c) (by omega),w32 (a.getD i 0-c-b.getD i 0) (by omega),w32 (a.getD i 0-c-b.getD i 0+65536) (by omega),w32 (a.getD i 0-c+65536) (by omega),if_pos (by omega),if_pos (by omega)]
 by_cases h2:(i:Int)<(b.length:Int)
 ·rw[if_pos h2]
  by_cases h3:a.getD i 0-c-b.getD i 0<0
  ·rw[if_pos h3,if_pos (by omega),if_pos (by omega),IntKind.wrap_u16,show(a.getD i 0-c-b.getD i 0+65536)%65536=(a.getD i 0-b.getD i 0-c)%65536 from by omega]
  rw[if_neg h3,if_pos (by omega),if_neg (by omega),IntKind.wrap_u16,show(a.getD i 0-c-b.getD i 0)%65536=(a.getD i 0-b.getD i 0-c)%65536 from by omega]
 have h0:=getD_ge b i (by omega)
 rw[if_neg h2]
 by_cases h3:a.getD i 0-c<0
 ·rw[if_pos h3,if_pos (by omega),if_pos (by omega),IntKind.wrap_u16,show(a.getD i 0-c+65536)%65536=(a.getD i 0-b.getD i 0-c)%65536 from by omega]
 rw[if_neg h3,if_pos (by omega),if_neg (by omega),IntKind.wrap_u16,show(a.getD i 0-c)%65536=(a.getD i 0-b.getD i 0-c)%65536 from by omega]
theorem subD_l0 (a b:List Int) (hl:a.length≤8388608) (hb:b.length≤a.length) (hle:val 65536 b≤val 65536 a) (da:Dig 65536 a) (db:Dig 65536 b):∀(n i:Nat) (out:List Int) (c:Int),i+n=a.length→out.length=i→Dig 65536 out→0≤c∧c≤1→val 65536 out-c*65536^i=val 65536 (a.take i)-val 65536 (b.take i) →
  ∃r,Ev (fun k=>tribunalref02_subD.l0 k a b out c (i:Int)) r∧Rep 65536 (val 65536 a-val 65536 b) r:=by
 intro n
 induction n with
 | zero=>
  intro i out c hi ho hd hc hv
  obtain⟨r,⟨K,hr⟩,h1,h2,h3⟩:=tribunalref02_trim_ev (B:=65536) (l:=out) (by omega) hd
  refine⟨r,⟨K+1,fun k hk=>?_⟩,h1,h2,?_⟩
  ·obtain⟨k,rfl⟩:∃j,k=j+1:=⟨k-1,by omega⟩
   have hk':tribunalref02_trim.f k out=some r:=hr k (by omega)
   show tribunalref02_subD.l0 (k+1) a b out c (i:Int)=some r
   rw[tribunalref02_subD.l0,if_neg (by omega),hk',Option.bind_some]
  rw[h3]
  rw[List.take_of_length_le (by omega),List.take_of_length_le (by omega)]at hv
  have g1:=val_lt (B:=65536) (by decide) hd
  have g2:=val_nonneg (B:=65536) (by decide) hd
  rw[ho]at g1
  exact borrow_none ⟨g2,g1⟩ hc hle hv
 | succ n ih=>
  intro i out c hi ho hd hc hv
  have hil:i<a.length:=by omega
  have ga:=getD_dig (by decide) da i
  have gb:=getD_dig (by decide) db i
  obtain⟨r,⟨K,hr⟩,hq⟩:=ih (i+1) (out++[(a.getD i 0-b.getD i 0-c)%65536]) (if a.getD i 0<b.getD i 0+c then 1 else 0) (by omega) (by simp;omega)
   (Dig.append.2 ⟨hd,by rw[Dig.cons];exact⟨by omega,Dig.nil⟩⟩) (by split<;>omega)
   (by rw[val_snoc,ho,val_take_getD,val_take_getD,Int.pow_succ];exact sub_step _ c _ _ _ _ _ _ _ _ (by split<;>omega) hv)
  refine⟨r,⟨K+1,fun k hk=>?_⟩,hq⟩
  obtain⟨k,rfl⟩:∃j,k=j+1:=⟨k-1,by omega⟩
  show tribunalref02_subD.l0 (k+1) a b out c (i:Int)=some r
  rw[subD_step k a b out c i hil hl ho da db hc]
  exact hr k (by omega)
theorem subD_ev (a b:List Int) (ha:a.length≤8388608) (hb:b.length≤a.length) (hle:val 65536 b≤val 65536 a) (da:Dig 65536 a) (db:Dig 65536 b) :
  ∃r,Ev (fun k=>tribunalref02_subD.f k a b) r∧Rep 65536 (val 65536 a-val 65536 b) r:=by
 obtain⟨r,⟨K,hr⟩,hq⟩:=subD_l0 a b ha hb hle da db a.length 0 [] 0 (by omega) rfl Dig.nil (by omega) (by simp[val])
 refine⟨r,⟨K,fun k hk=>?_⟩,hq⟩
 show tribunalref02_subD.f k a b=some r
 rw[tribunalref02_subD.f]
 exact hr k hk
theorem Make_ev (s:Bool) (l:List Int) (hl:l.length<9223372036854775807) (hd:Dig 65536 l):∃r,Ev (fun k=>tribunalref02_Make.f k s l) (s&&decide (0<r.length),r)∧Dig 65536 r∧Top r∧val 65536 r=val 65536 l:=by
 obtain⟨r,⟨K,hr⟩,h⟩:=tribunalref02_trim_ev (B:=65536) (l:=l) hl hd
 refine⟨r,⟨K,fun k hk=>?_⟩,h⟩
 have hk':tribunalref02_trim.f k l=some r:=hr k hk
 show tribunalref02_Make.f k s l=_
 simp only[tribunalref02_Make.f,hk',Option.bind_some]
 cases s<;>simp
theorem Make_num {v:Int} {l:List Int} (b:Bool) (hl:l.length<9223372036854775807) (hd:Dig 65536 l) (hv:val 65536 l=v) {n:Int} (hn:n=if b then -v else v):∃u r,Ev (fun k=>tribunalref02_Make.f k b l) (u,r)∧Num 65536 n u r:=by
 obtain⟨r,h,h1,h2,h3⟩:=Make_ev b l hl hd
 exact⟨_,r,h,Num.of_rep' (by decide) ⟨h1,h2,h3.trans hv⟩ b hn⟩
theorem rplus_num {n m:Int} {s t:Bool} {a b:List Int} (ha:Num 65536 n s a) (hb:Num 65536 m t b) (la:a.length≤8388600) (lb:b.length≤8388600) :
  ∃u r,Ev (fun k=>tribunalref02_Plus.f k s a t b) (u,r)∧Num 65536 (n+m) u r:=by
 have e1:=ha.sign
 have e2:=hb.sign
 by_cases hst:s=t
 ·obtain⟨r0,⟨K,hr⟩,h1,h2,h3⟩:=addD_ev a b la lb ha.rep.dig hb.rep.dig
  rw[ha.rep.val,hb.rep.val]at h2
  obtain⟨u,r,⟨K2,hr2⟩,hN⟩:=Make_num s (by omega) h1 h2 (n:=n+m) (by subst hst;cases s<;>simp at e1 e2 ⊢<;>omega)
  refine⟨u,r,⟨max K K2,fun k hk=>?_⟩,hN⟩
  have g:tribunalref02_addD.f k a b=some r0:=hr k (by omega)
  have g2:tribunalref02_Make.f k s r0=_:=hr2 k (by omega)
  show tribunalref02_Plus.f k s a t b=_
  rw[tribunalref02_Plus.f,if_pos (by rw[hst];exact beq_self_eq_true t),g,Option.bind_some,g2,Option.bind_some]
 obtain⟨K1,h1⟩:=tribunalref02_cmpD_ev a b (by omega) (by omega) ha.rep.dig hb.rep.dig ha.rep.top hb.rep.top
 have hne:¬(s==t)=true:=by intro h;exact hst (eq_of_beq h)
 by_cases hle:val 65536 b≤val 65536 a
 ·obtain⟨r0,⟨K,hr⟩,hR⟩:=subD_ev a b (by omega) (len_of_le (by decide) ha.rep.dig hb.rep.dig hb.rep.top hle) hle ha.rep.dig hb.rep.dig
  have hlen:r0.length≤a.length:=rep_len (by decide) hR (by have:=val_lt (B:=65536) (by decide) ha.rep.dig;have:=val_nonneg (B:=65536) (by decide) hb.rep.dig;omega)
  have hle':=hle
  rw[ha.rep.val,hb.rep.val]at hR hle'
  obtain⟨u,r,⟨K2,hr2⟩,hN⟩:=Make_num s (by omega) hR.dig hR.val (n:=n+m) (by cases s<;>cases t<;>simp at hst e1 e2 ⊢<;>omega)
  refine⟨u,r,⟨max K1 (max K K2),fun k hk=>?_⟩,hN⟩
  have g:tribunalref02_subD.f k a b=some r0:=hr k (by omega)
  have g1:tribunalref02_cmpD.f k a b=_:=h1 k (by omega)
  have g2:tribunalref02_Make.f k s r0=_:=hr2 k (by omega)
  show tribunalref02_Plus.f k s a t b=_
  rw[tribunalref02_Plus.f,if_neg hne,g1,Option.bind_some,if_pos (sg_ge.2 (by omega)),g,Option.bind_some,g2,Option.bind_some]
 have hle2:val 65536 a≤val 65536 b:=by omega
 obtain⟨r0,⟨K,hr⟩,hR⟩:=subD_ev b a (by omega) (len_of_le (by decide) hb.rep.dig ha.rep.dig ha.rep.top hle2) hle2 hb.rep.dig ha.rep.dig
 have hlen:r0.length≤b.length:=rep_len (by decide) hR (by have:=val_lt (B:=65536) (by decide) hb.rep.dig;have:=val_nonneg (B:=65536) (by decide) ha.rep.dig;omega)
 have hle':=hle2
 rw[ha.rep.val,hb.rep.val]at hR hle'
 obtain⟨u,r,⟨K2,hr2⟩,hN⟩:=Make_num t (by omega) hR.dig hR.val (n:=n+m) (by cases s<;>cases t<;>simp at hst e1 e2 ⊢<;>omega)
 refine⟨u,r,⟨max K1 (max K K2),fun k hk=>?_⟩,hN⟩
 have g:tribunalref02_subD.f k b a=some r0:=hr k (by omega)
 have g1:tribunalref02_cmpD.f k a b=_:=h1 k (by omega)
 have g2:tribunalref02_Make.f k t r0=_:=hr2 k (by omega)
 show tribunalref02_Plus.f k s a t b=_
 rw[tribunalref02_Plus.f,if_neg hne,g1,Option.bind_some,if_neg (fun x=>hle (by have:=sg_ge.1 x;omega)),g,Option.bind_some,g2,Option.bind_some]
theorem rep_four {v:Int} (h:0≤v∧v<18446744073709551616) (b:Bool) {n:Int} (hn:n=if b then -v else v):∃u r,Ev (fun k=>tribunalref02_Make.f k b [IntKind.u16.wrap v,IntKind.u16.wrap (v/65536),IntKind.u16.wrap (v/4294967296),IntKind.u16.wrap (v/281474976710656)]) (u,r)∧Num 65536 n u r∧r.length≤4:=by
 obtain⟨hv4,hd4⟩:=limb4 v h
 obtain⟨u,r,hr,hN⟩:=Make_num b (by simp) hd4 hv4 hn
 refine⟨u,r,hr,hN,rep_len (by decide) hN.rep ?_⟩
 rw[←pow4]
 cases b<;>simp at hn<;>omega
theorem u64_neg {n:Int} (h:-9223372036854775808≤n∧n<0):IntKind.u64.wrap (-(IntKind.u64.wrap n)) = -n:=by
 simp only[IntKind.wrap_u64];omega
theorem u64_pos {n:Int} (h:0≤n∧n≤9223372036854775807):IntKind.u64.wrap n=n:=by
 simp only[IntKind.wrap_u64];omega
theorem Small1_num {n:Int} (h:-9223372036854775808≤n∧n≤9223372036854775807):∃u d,Ev (fun k=>tribunalref02_Small1.f k n) (u,d)∧Num 65536 n u d∧d.length≤4:=by
 by_cases h0:n<0
 ·obtain⟨u,r,⟨K,hr⟩,hN⟩:=rep_four (v := -n) (by omega) true (n:=n) (by simp)
  refine⟨u,r,⟨K,fun k hk=>?_⟩,hN⟩
  have g:=hr k hk
  show tribunalref02_Small1.f k n=_
  rw[tribunalref02_Small1.f,if_pos h0,u64_neg (by omega)]
  replace g:tribunalref02_Make.f k true _=_:=g
  rw[g,Option.bind_some]
 obtain⟨u,r,⟨K,hr⟩,hN⟩:=rep_four (v:=n) (by omega) false (n:=n) (by simp)
 refine⟨u,r,⟨K,fun k hk=>?_⟩,hN⟩
 have g:=hr k hk
 show tribunalref02_Small1.f k n=_
 rw[tribunalref02_Small1.f,if_neg h0,u64_pos (by omega)]
 replace g:tribunalref02_Make.f k false _=_:=g
 rw[g,Option.bind_some]
theorem getD_set_ne (l:List Int) (i t:Nat) (v:Int) (h:i≠t):(l.set i v).getD t 0=l.getD t 0:=by
 simp[List.getD_eq_getElem?_getD,List.getElem?_set_ne h]
theorem or_add (t:Nat) {x y:Int} (hx:0≤x∧x<18446744073709551616) (hd:∃c,x=c*2^t) (hy:0≤y∧y<2^t) (hy2:y<18446744073709551616):Go.bits .or .u64 x y=x+y∧Go.bits .or .u64 y x=x+y:=by
 obtain⟨c,rfl⟩:=hd
 have hp:(0:Int)<2^t:=Int.pow_pos (by decide)
 have hc:0≤c:=by
  refine Classical.byContradiction fun h=>?_
  have:=Int.mul_le_mul_of_nonneg_right (show c ≤ -1 by omega) (Int.le_of_lt hp)
  omega
 obtain⟨n,rfl⟩:=Int.eq_ofNat_of_zero_le hc
 obtain⟨m,rfl⟩:=Int.eq_ofNat_of_zero_le hy.1
 have hpc:((2:Int)^t)=((2^t:Nat):Int):=by simp
 rw[hpc]at hx hy ⊢
 have hm:m<2^t:=by have:=hy.2;omega
 rw[←Int.natCast_mul]at hx ⊢
 have e:n*2^t ||| m=n*2^t+m:=by
  have:=Nat.shiftLeft_add_eq_or_of_lt (i:=t) (b:=m) hm n
  rw[Nat.shiftLeft_eq]at this
  exact this.symm
 constructor
 ·rw[bits_or_u64_nat _ _ (by omega) (by omega),e];omega
 rw[bits_or_u64_nat _ _ (by omega) (by omega),Nat.or_comm,e];omega
theorem or_nil {x:Int} (hx:0≤x∧x<18446744073709551616):Go.bits .or .u64 0 x=x:=by
 have:=(or_add 0 (x:=x) (y:=0) hx ⟨x,by simp⟩ (by simp) (by decide)).2
 rw[this];omega
structure Sh (s P Q:Int):Prop where
 s0:0≤s∧s≤63
 P0:0<P
 Q0:0<Q
 PQ:P*Q=18446744073709551616
 P1:∃t:Nat,P=2^t∧s.toNat=t
 Q1:∃t:Nat,Q=2^t∧64-s.toNat=t
theorem Sh.of (s:Int) (h:0≤s∧s≤63):∃P Q,Sh s P Q:=by
 refine⟨2^s.toNat,2^(64-s.toNat),h,Int.pow_pos (by decide),Int.pow_pos (by decide),?_,⟨_,rfl,rfl⟩,⟨_,rfl,rfl⟩⟩
 rw[←Int.pow_add,show s.toNat+(64-s.toNat)=64 from by omega]
 decide
theorem Sh.P_le {s P Q:Int} (h:Sh s P Q):P≤18446744073709551616:=by
 have:=Int.mul_le_mul_of_nonneg_left (show(1:Int)≤Q by have:=h.Q0;omega) (Int.le_of_lt h.P0)
 rw[h.PQ]at this;omega
theorem Sh.Q_le {s P Q:Int} (h:Sh s P Q):Q≤18446744073709551616:=by
 have:=Int.mul_le_mul_of_nonneg_right (show(1:Int)≤P by have:=h.P0;omega) (Int.le_of_lt h.Q0)
 rw[h.PQ]at this;omega
theorem shl_parts {P Q x:Int} (hP:0<P) (hQ:0<Q) (hPQ:P*Q=18446744073709551616) (hx:0≤x∧x<18446744073709551616) :
  x*P=x/Q*18446744073709551616+x%Q*P∧0≤x/Q∧x/Q<P∧0≤x%Q*P∧x%Q*P<18446744073709551616∧(x*P)%18446744073709551616=x%Q*P:=by
 have h1:=Int.mul_ediv_add_emod x Q
 have h2:=Int.emod_nonneg x (Int.ne_of_gt hQ)
 have h3:=Int.emod_lt_of_pos x hQ
 have h4:0≤x/Q:=Int.ediv_nonneg hx.1 (Int.le_of_lt hQ)
 have e:x*P=x/Q*18446744073709551616+x%Q*P:=by
  have:x*P=(Q*(x/Q)+x%Q)*P:=by rw[h1]
  rw[this,Int.add_mul,←hPQ,Int.mul_comm Q,Int.mul_assoc,Int.mul_comm Q P]
 have h5:0≤x%Q*P:=Int.mul_nonneg h2 (Int.le_of_lt hP)
 have h6:x%Q*P<18446744073709551616:=by
  rw[←hPQ,Int.mul_comm P Q]
  exact Int.mul_lt_mul_of_pos_right h3 hP
 refine⟨e,h4,?_,h5,h6,?_⟩
 ·refine Int.ediv_lt_of_lt_mul hQ ?_
  rw[hPQ];exact hx.2
 rw[e,Int.mul_add_emod_self_right];exact Int.emod_eq_of_lt h5 h6
theorem Sh.eqL {s P Q x:Int} (h:Sh s P Q) (hx:0≤x∧x<18446744073709551616):shl .u64 x s=x%Q*P:=by
 obtain⟨t,e,et⟩:=h.P1
 have:=(shl_parts h.P0 h.Q0 h.PQ hx).2.2.2.2.2
 have hs:=h.s0
 unfold Go.Proofs.YtikencoikigllaaGreatDoorW.PrintWords.shl
 rw[show min s.toNat IntKind.u64.bits=t from by show min s.toNat 64=t;omega,←e,IntKind.wrap_u64,this]
theorem Sh.eqR {s P Q x:Int} (h:Sh s P Q):shr .u64 x s=x/P:=by
 obtain⟨t,e,et⟩:=h.P1
 have hs:=h.s0
 unfold Go.Proofs.YtikencoikigllaaGreatDoorW.PrintWords.shr
 rw[show min s.toNat IntKind.u64.bits=t from by show min s.toNat 64=t;omega,←e]
theorem Sh.count {s P Q:Int} (h:Sh s P Q):IntKind.u64.wrap (64-s)=64-s:=by
 have hs:=h.s0
 rw[IntKind.wrap_u64];omega
theorem Sh.eqR' {s P Q x:Int} (h:Sh s P Q):shr .u64 x (64-s)=x/Q:=by
 obtain⟨t,e,et⟩:=h.Q1
 have hs:=h.s0
 unfold Go.Proofs.YtikencoikigllaaGreatDoorW.PrintWords.shr
 rw[show min (64-s).toNat IntKind.u64.bits=t from by show min (64-s).toNat 64=t;omega,←e]
theorem Sh.eqL' {s P Q x:Int} (h:Sh s P Q) (hx:0≤x∧x<18446744073709551616):shl .u64 x (64-s)=x%P*Q:=by
 obtain⟨t,e,et⟩:=h.Q1
 have:=(shl_parts h.Q0 h.P0 (by rw[Int.mul_comm];exact h.PQ) hx).2.2.2.2.2
 have hs:=h.s0
 unfold Go.Proofs.YtikencoikigllaaGreatDoorW.PrintWords.shl
 rw[show min (64-s).toNat IntKind.u64.bits=t from by show min (64-s).toNat 64=t;omega,←e,IntKind.wrap_u64,this]
theorem val_set_getD (B:Int) (l:List Int) (i:Nat) (v:Int) (hi:i<l.length):val B (l.set i v)=val B l+(v-l.getD i 0)*B^i:=by
 rw[val_set B l i v hi,List.getD_eq_getElem?_getD,List.getElem?_eq_getElem hi,Option.getD_some]
theorem getD_set_eq (l:List Int) (i:Nat) (v:Int) (hi:i<l.length):(l.set i v).getD i 0=v:=by
 rw[List.getD_eq_getElem?_getD,List.getElem?_set_self hi,Option.getD_some]
theorem div_eq {T y g:Int} (hy:0<y) (h1:g*y≤T) (h2:T<(g+1)*y):T/y=g:=by
 have:=Int.le_ediv_of_mul_le hy h1
 have:=Int.ediv_lt_of_lt_mul hy h2
 omega
structure Half (y yn1 yn0 u d q r:Int):Prop where
 hy:y=yn1*4294967296+yn0
 y1:2147483648≤yn1∧yn1<4294967296
 y0:0≤yn0∧yn0<4294967296
 hu:0≤u∧u<y
 hd:0≤d∧d<4294967296
 hq:0≤q∧q≤4294967297
 hr:0≤r∧r<4294967296
 hqr:u=q*yn1+r
 top:u*4294967296+d<(q+1)*y
theorem Half.start {y yn1 yn0 u d:Int} (hy:y=yn1*4294967296+yn0) (y1:2147483648≤yn1∧yn1<4294967296) (y0:0≤yn0∧yn0<4294967296) (hu:0≤u∧u<y) (hd:0≤d∧d<4294967296):Half y yn1 yn0 u d (u/yn1) (u%yn1):=by
 have h1:=Int.mul_ediv_add_emod u yn1
 have h2:=Int.emod_nonneg u (show yn1≠0 by omega)
 have h3:=Int.emod_lt_of_pos u (show 0<yn1 by omega)
 have h4:0≤u/yn1:=Int.ediv_nonneg hu.1 (by omega)
 have h5:u/yn1<4294967298:=Int.ediv_lt_of_lt_mul (by omega) (by omega)
 rw[Int.mul_comm]at h1
 refine⟨hy,y1,y0,hu,hd,⟨h4,by omega⟩,⟨h2,by omega⟩,h1.symm,?_⟩
 have h6:0≤(u/yn1+1)*yn0:=Int.mul_nonneg (by omega) y0.1
 have h7:(u/yn1+1)*y=(u/yn1*yn1+yn1)*4294967296+(u/yn1+1)*yn0:=by
  rw[hy,Int.mul_add,←Int.mul_assoc,Int.add_mul (u/yn1) 1 yn1,Int.one_mul]
 rw[h7];omega
theorem Half.eqs {y yn1 yn0 u d q r:Int} (h:Half y yn1 yn0 u d q r):u*4294967296+d-q*y=r*4294967296+d-q*yn0:=by
 have e:q*y=q*yn1*4294967296+q*yn0:=by rw[h.hy,Int.mul_add,←Int.mul_assoc]
 have:=h.hqr
 rw[e];omega
theorem Half.below {y yn1 yn0 u d q r:Int} (h:Half y yn1 yn0 u d q r):u*4294967296+d<4294967296*y:=by
 have:=h.hu;have:=h.hd;omega
theorem Half.good {y yn1 yn0 u d q r:Int} (h:Half y yn1 yn0 u d q r) (hc:q*yn0≤r*4294967296+d):(u*4294967296+d)/y=q:=by
 have e:=h.eqs
 have hy:=h.hy;have h1:=h.y1;have h2:=h.y0
 exact div_eq (by omega) (by omega) h.top
theorem Half.much {y yn1 yn0 u d q r:Int} (h:Half y yn1 yn0 u d q r) (hc:q≥4294967296∨q*yn0>r*4294967296+d):u*4294967296+d<q*y∧1≤q:=by
 have e:=h.eqs
 have hy:=h.hy;have h1:=h.y1;have h2:=h.y0;have h3:=h.hd;have h4:=h.hr;have h5:=h.hq
 rcases hc with hc|hc
 ·have:=h.below
  have h6:=Int.mul_le_mul_of_nonneg_right (show 4294967296≤q from hc) (show 0≤y by omega)
  omega
 refine⟨by omega,?_⟩
 refine Classical.byContradiction fun hx=>?_
 have:q=0:=by omega
 rw[this]at hc;omega
theorem Half.next {y yn1 yn0 u d q r:Int} (h:Half y yn1 yn0 u d q r) (hc:q≥4294967296∨q*yn0>r*4294967296+d) (hr:r+yn1<4294967296):Half y yn1 yn0 u d (q-1) (r+yn1):=by
 obtain⟨h1,h2⟩:=h.much hc
 have h3:=h.hqr;have h4:=h.hq;have h5:=h.hr;have h6:=h.y1
 refine⟨h.hy,h.y1,h.y0,h.hu,h.hd,by omega,by omega,?_,by rw[show q-1+1=q from by omega];exact h1⟩
 rw[Int.sub_mul,Int.one_mul];omega
theorem Half.last {y yn1 yn0 u d q r:Int} (h:Half y yn1 yn0 u d q r) (hc:q≥4294967296∨q*yn0>r*4294967296+d) (hr:r+yn1≥4294967296):(u*4294967296+d)/y=q-1:=by
 obtain⟨h1,h2⟩:=h.much hc
 have h3:=h.hqr;have h4:=h.hq;have h5:=h.hr;have h6:=h.y1;have h7:=h.y0;have h8:=h.hd;have hy:=h.hy
 refine div_eq (by omega) ?_ (by rw[show q-1+1=q from by omega];exact h1)
 have e:=h.eqs
 have e2:(q-1)*y=q*y-y:=by rw[Int.sub_mul,Int.one_mul]
 have e3:(q-1)*yn0=q*yn0-yn0:=by rw[Int.sub_mul,Int.one_mul]
 have h9:=Int.mul_le_mul (show q-1≤4294967296 by omega) (show yn0≤4294967295 by omega) h7.1 (by decide)
 rw[e2];omega
theorem Half.quot {y yn1 yn0 u d q r:Int} (h:Half y yn1 yn0 u d q r):0≤(u*4294967296+d)/y∧(u*4294967296+d)/y<4294967296:=by
 have h3:=h.hu;have h4:=h.hd;have hy:=h.hy;have h6:=h.y1;have h7:=h.y0
 exact⟨Int.ediv_nonneg (by omega) (by omega),Int.ediv_lt_of_lt_mul (by omega) h.below⟩
theorem Half.qy {y yn1 yn0 u d q r:Int} (h:Half y yn1 yn0 u d q r) (hq:q<4294967296):0≤q*yn0∧q*yn0<18446744073709551616:=by
 have h1:=h.y0;have h2:=h.hq
 refine⟨Int.mul_nonneg h2.1 h1.1,?_⟩
 have:=Int.mul_le_mul (show q≤4294967295 by omega) (show yn0≤4294967295 by omega) h1.1 (by decide)
 omega
theorem u64_in {x:Int} (h:0≤x∧x<18446744073709551616):IntKind.u64.wrap x=x:=by
 rw[IntKind.wrap_u64];omega
theorem Div64_l0 {y yn1 yn0 u d:Int} (s e:Int) (R:Int×Int) (hR:Ev (fun k=>bits_Div64.j2 k y s yn1 yn0 u d e ((u*4294967296+d)/y)) R):∀(n:Nat) (q r:Int),(4294967296-r).toNat≤n→Half y yn1 yn0 u d q r→Ev (fun k=>bits_Div64.l0 k y s yn1 yn0 u d e q r) R:=by
 obtain⟨K0,hR⟩:=hR
 intro n
 induction n with
 | zero=>intro q r hn h;have:=h.hr;omega
 | succ n ih=>
  intro q r hn h
  have h2:=h.hq;have h3:=h.hr;have h4:=h.y1;have h5:=h.hd;have h6:=h.y0
  have key:∀k,bits_Div64.l0 (k+1) y s yn1 yn0 u d e q r=bits_Div64.j1 k y s yn1 yn0 u d e q r (decide (q≥4294967296∨q*yn0>r*4294967296+d)):=by
   intro k
   rw[bits_Div64.l0]
   by_cases hc:q≥4294967296
   ·rw[if_pos hc,decide_eq_true (Or.inl hc)]
   have:=h.qy (by omega)
   rw[if_neg hc,u64_in this,u64_in (x:=4294967296*r) (by omega),u64_in (x:=4294967296*r+d) (by omega)]
   congr 1
   apply Bool.eq_iff_iff.2
   simp only[decide_eq_true_eq]
   constructor
   ·intro hx;right;omega
   intro hx;rcases hx with hx|hx<;>omega
  by_cases hc:q≥4294967296∨q*yn0>r*4294967296+d
  ·have hq1:=(h.much hc).2
   by_cases ho:r+yn1≥4294967296
   ·refine⟨K0+2,fun k hk=>?_⟩
    obtain⟨k,rfl⟩:∃j,k=j+2:=⟨k-2,by omega⟩
    show bits_Div64.l0 (k+1+1) y s yn1 yn0 u d e q r=some R
    rw[key,decide_eq_true hc,bits_Div64.j1,if_pos rfl,u64_in (x:=r+yn1) (by omega),if_pos ho,u64_in (x:=q-1) (by omega),←h.last hc ho]
    exact hR k (by omega)
   obtain⟨K1,h1⟩:=ih (q-1) (r+yn1) (by omega) (h.next hc (by omega))
   refine⟨K1+2,fun k hk=>?_⟩
   obtain⟨k,rfl⟩:∃j,k=j+2:=⟨k-2,by omega⟩
   show bits_Div64.l0 (k+1+1) y s yn1 yn0 u d e q r=some R
   rw[key,decide_eq_true hc,bits_Div64.j1,if_pos rfl,u64_in (x:=r+yn1) (by omega),if_neg ho,u64_in (x:=q-1) (by omega)]
   exact h1 k (by omega)
  refine⟨K0+2,fun k hk=>?_⟩
  obtain⟨k,rfl⟩:∃j,k=j+2:=⟨k-2,by omega⟩
  show bits_Div64.l0 (k+1+1) y s yn1 yn0 u d e q r=some R
  rw[key,decide_eq_false hc,bits_Div64.j1,if_neg (by decide)]
  have hg:=h.good (by omega)
  rw[←hg]
  exact hR k (by omega)
theorem Div64_fin {y s P Q u d q g:Int} (h:Sh s P Q) (hy:0<y∧y<18446744073709551616) (hu:0≤u∧u<y) (hd:0≤d∧d<4294967296) (hg:(u*4294967296+d)/y=g) (hg0:0≤g∧g<4294967296) (hq:0≤q∧q<4294967296) :
  (if 0≤s then some (IntKind.u64.wrap (IntKind.u64.wrap (q*4294967296)+g),Go.Proofs.YtikencoikigllaaGreatDoorW.PrintWords.shr .u64 (IntKind.u64.wrap (IntKind.u64.wrap (IntKind.u64.wrap (u*4294967296)+d)-IntKind.u64.wrap (g*y))) s) else none)=some (q*4294967296+g,(u*4294967296+d)%y/P):=by
 have hs:=h.s0
 have h1:=Int.emod_nonneg (u*4294967296+d) (show y≠0 by omega)
 have h2:=Int.emod_lt_of_pos (u*4294967296+d) hy.1
 have h3:=Int.mul_ediv_add_emod (u*4294967296+d) y
 rw[hg,Int.mul_comm y g]at h3
 rw[if_pos hs.1,u64_in (x:=q*4294967296) (by omega),u64_in (x:=q*4294967296+g) (by omega),h.eqR]
 have e:IntKind.u64.wrap (IntKind.u64.wrap (IntKind.u64.wrap (u*4294967296)+d)-IntKind.u64.wrap (g*y))=(u*4294967296+d)%y:=by
  simp only[IntKind.wrap_u64]
  omega
 rw[e]
theorem Div64_l1 {y yn1 yn0 u d s P Q:Int} (hs:Sh s P Q) (hy:0<y∧y<18446744073709551616) (g:Int) (hg:0≤g∧g<4294967296):∀(n:Nat) (q r:Int),(4294967296-r).toNat≤n→Half y yn1 yn0 u d q r→Ev (fun k=>bits_Div64.l1 k y s yn1 yn0 d g r u q) (g*4294967296+(u*4294967296+d)/y,(u*4294967296+d)%y/P):=by
 intro n
 induction n with
 | zero=>intro q r hn h;have:=h.hr;omega
 | succ n ih=>
  intro q r hn h
  have h2:=h.hq;have h3:=h.hr;have h4:=h.y1;have h5:=h.hd;have h6:=h.y0
  have hquot:=h.quot
  have key:∀k,bits_Div64.l1 (k+1) y s yn1 yn0 d g r u q=bits_Div64.j4 k y s yn1 yn0 d g r u q (decide (q≥4294967296∨q*yn0>r*4294967296+d)):=by
   intro k
   rw[bits_Div64.l1]
   by_cases hc:q≥4294967296
   ·rw[if_pos hc,decide_eq_true (Or.inl hc)]
   have:=h.qy (by omega)
   rw[if_neg hc,u64_in this,u64_in (x:=4294967296*r) (by omega),u64_in (x:=4294967296*r+d) (by omega)]
   congr 1
   apply Bool.eq_iff_iff.2
   simp only[decide_eq_true_eq]
   constructor
   ·intro hx;right;omega
   intro hx;rcases hx with hx|hx<;>omega
  by_cases hc:q≥4294967296∨q*yn0>r*4294967296+d
  ·have hq1:=(h.much hc).2
   by_cases ho:r+yn1≥4294967296
   ·have hl:=h.last hc ho
    refine⟨2,fun k hk=>?_⟩
    obtain⟨k,rfl⟩:∃j,k=j+2:=⟨k-2,by omega⟩
    show bits_Div64.l1 (k+1+1) y s yn1 yn0 d g r u q=_
    rw[key,decide_eq_true hc,bits_Div64.j4,if_pos rfl,u64_in (x:=r+yn1) (by omega),if_pos ho,u64_in (x:=q-1) (by omega),Div64_fin hs hy h.hu h.hd hl (by rw[←hl];exact hquot) hg,hl]
   obtain⟨K1,h1⟩:=ih (q-1) (r+yn1) (by omega) (h.next hc (by omega))
   refine⟨K1+2,fun k hk=>?_⟩
   obtain⟨k,rfl⟩:∃j,k=j+2:=⟨k-2,by omega⟩
   show bits_Div64.l1 (k+1+1) y s yn1 yn0 d g r u q=_
   rw[key,decide_eq_true hc,bits_Div64.j4,if_pos rfl,u64_in (x:=r+yn1) (by omega),if_neg ho,u64_in (x:=q-1) (by omega)]
   exact h1 k (by omega)
  have hl:=h.good (by omega)
  refine⟨2,fun k hk=>?_⟩
  obtain⟨k,rfl⟩:∃j,k=j+2:=⟨k-2,by omega⟩
  show bits_Div64.l1 (k+1+1) y s yn1 yn0 d g r u q=_
  rw[key,decide_eq_false hc,bits_Div64.j4,if_neg (by decide),Div64_fin hs hy h.hu h.hd hl (by rw[←hl];exact hquot) hg,hl]
theorem up_or {s P Q:Int} (h:Sh s P Q) {o x:Int} (hx:0≤x∧x<18446744073709551616) (ho:0≤o∧o<P):Go.bits .or .u64 o (x%Q*P)=o+x%Q*P:=by
 obtain⟨t,et,_⟩:=h.P1
 obtain⟨_,_,_,e4,e5,_⟩:=shl_parts h.P0 h.Q0 h.PQ hx
 have hP:=h.P_le
 rw[(or_add t ⟨e4,e5⟩ ⟨x%Q,by rw[et]⟩ (by rw[←et];exact ho) (by omega)).2,Int.add_comm]
theorem up_out0 {s P Q:Int} (h:Sh s P Q) (h0:¬s>0) {x:Int} (hx:0≤x∧x<18446744073709551616):x/Q=0:=by
 obtain⟨t,et,es⟩:=h.P1
 have hs:=h.s0
 have hP1:P=1:=by rw[et,←es,show s=0 from by omega];rfl
 have hQ1:Q=18446744073709551616:=by have:=h.PQ;rw[hP1]at this;omega
 rw[hQ1];exact Int.ediv_eq_zero_of_lt hx.1 hx.2
theorem set_same (l:List Int) (i:Nat) (h:l.getD i 0=0):l.set i 0=l:=by
 refine List.ext_getElem (by simp) fun j h1 h2=>?_
 by_cases hj:j=i
 ·subst hj
  rw[List.getElem_set_self]
  rw[List.getD_eq_getElem?_getD,List.getElem?_eq_getElem h2,Option.getD_some]at h
  exact h.symm
 rw[List.getElem_set_ne (fun e=>hj e.symm)]
theorem step_wrap (i n:Nat) (hi:i<n) (hn:n≤8388608):wrap64 ((i:Int)+1)=((i+1:Nat):Int):=by rw[w64 _ (by omega)];omega
theorem up_step (k:Nat) {s P Q:Int} (h:Sh s P Q) (a out:List Int) (i:Nat) (hi:i<a.length) (hl:a.length≤8388608) (ho:out.length=a.length+1) (da:Dig 18446744073709551616 a) (hw:0≤out.getD i 0∧out.getD i 0<P) (hz:out.getD (i+1) 0=0) :
  whole_amount_up.l0 (k+1) s out a (a.length:Int) (i:Int)=whole_amount_up.l0 k s ((out.set i (out.getD i 0+a.getD i 0%Q*P)).set (i+1) (a.getD i 0/Q)) a (a.length:Int) ((i+1:Nat):Int):=by
 have ga:=getD_dig (by decide) da i
 have hor:=up_or h ga hw
 have hwr:=step_wrap i a.length hi hl
 have hout:=fun h0=>up_out0 h h0 ga
 have c1:(i:Int)<(a.length:Int):=by omega
 have c2:(0:Int)≤(i:Int):=by omega
 have c3:(i:Int)<(out.length:Int):=by omega
 have c4:=h.s0.1
 have c5:(0:Int)≤((i+1:Nat):Int):=by omega
 have c6:((i+1:Nat):Int)<(out.length:Int):=by omega
 have c7:(0:Int)≤64-s:=by have:=h.s0;omega
 have hcount:=h.count
 have hL:=h.eqL ga
 have hR:=h.eqR' (x:=a.getD i 0)
 have hset:=set_same (out.set i (out.getD i 0+a.getD i 0%Q*P)) (i+1) (by rw[getD_set_ne _ _ _ _ (by omega)];exact hz)
 have ra:=rd_getD a i
 have ro:=rd_getD out i
 generalize a.getD i 0=x at *
 generalize out.getD i 0=o at *
 clear da hw ga hl hi hz
 rw[whole_amount_up.l0,if_pos c1,if_pos c2,if_pos c1,if_pos c3,if_pos c4,Option.bind_some,ra,ro,hL,hor,hwr,Int.toNat_natCast,Int.toNat_natCast]
 by_cases h0:s>0
 ·rw[if_pos h0,hcount,if_pos c7,if_pos c5,if_pos c6,hR]
 have hx0:=hout h0
 rw[if_neg h0,hx0,hset]
theorem up_l0 {s P Q:Int} (h:Sh s P Q) (a:List Int) (hl:a.length≤8388608) (da:Dig 18446744073709551616 a):∀(n i k:Nat) (out:List Int),i+n=a.length→n<k→out.length=a.length+1→Dig 18446744073709551616 out→val 18446744073709551616 out=val 18446744073709551616 (a.take i)*P→out.getD i 0<P→(∀t,i<t→out.getD t 0=0) →
  ∃r,whole_amount_up.l0 k s out a (a.length:Int) (i:Int)=some r∧r.length=a.length+1∧Dig 18446744073709551616 r∧val 18446744073709551616 r=val 18446744073709551616 a*P:=by
 intro n
 induction n with
 | zero=>
  intro i k out hi hk ho hd hv hw hz
  obtain⟨k,rfl⟩:∃j,k=j+1:=⟨k-1,by omega⟩
  refine⟨out,?_,ho,hd,by rw[hv,show i=a.length from by omega,List.take_length]⟩
  rw[whole_amount_up.l0,if_neg (by omega)]
 | succ n ih=>
  intro i k out hi hk ho hd hv hw hz
  obtain⟨k,rfl⟩:∃j,k=j+1:=⟨k-1,by omega⟩
  have hil:i<a.length:=by omega
  have ga:=getD_dig (by decide) da i
  have go:=getD_dig (by decide) hd i
  have hz1:=hz (i+1) (by omega)
  obtain⟨e1,e2,e3,e4,e5,e6⟩:=shl_parts h.P0 h.Q0 h.PQ ga
  rw[up_step k h a out i hil hl ho da ⟨go.1,hw⟩ hz1]
  have hP:=h.P_le
  have hsum:0≤out.getD i 0+a.getD i 0%Q*P∧out.getD i 0+a.getD i 0%Q*P<18446744073709551616:=by
   refine⟨by omega,?_⟩
   have h1:a.getD i 0%Q+1≤Q:=by have:=Int.emod_lt_of_pos (a.getD i 0) h.Q0;omega
   have h2:=Int.mul_le_mul_of_nonneg_right h1 (Int.le_of_lt h.P0)
   rw[Int.mul_comm Q P,h.PQ,Int.add_mul,Int.one_mul]at h2
   omega
  refine ih (i+1) k _ (by omega) (by omega) (by simp[ho]) ((hd.set i hsum).set (i+1) ⟨e2,by omega⟩) ?_ ?_ ?_
  ·rw[val_set_getD _ _ _ _ (by simp[ho];omega),val_set_getD _ _ _ _ (by omega),getD_set_ne _ _ _ _ (by omega),hz1,val_take_getD,hv,Int.pow_succ,Int.add_mul]
   have e7:a.getD i 0*18446744073709551616^i*P=(a.getD i 0*P)*18446744073709551616^i:=by rw[Int.mul_assoc,Int.mul_comm (18446744073709551616^i) P,←Int.mul_assoc]
   rw[e7,e1,Int.add_mul,Int.mul_comm (18446744073709551616^i) 18446744073709551616,←Int.mul_assoc,Int.sub_zero,show out.getD i 0+a.getD i 0%Q*P-out.getD i 0=a.getD i 0%Q*P from by omega]
   omega
  ·rw[getD_set_eq _ _ _ (by simp[ho];omega)];exact e3
  intro t ht
  rw[getD_set_ne _ _ _ _ (by omega),getD_set_ne _ _ _ _ (by omega)]
  exact hz t (by omega)
theorem up_ev {s P Q:Int} (h:Sh s P Q) (a:List Int) (hl:a.length≤8388600) (da:Dig 18446744073709551616 a) :
  ∃r,Ev (fun k=>whole_amount_up.f k a s) r∧r.length=a.length+1∧Dig 18446744073709551616 r∧val 18446744073709551616 r=val 18446744073709551616 a*P:=by
 have hz:∀t,(List.replicate (a.length+1) (0:Int)).getD t 0=0:=fun t=>by
  simp[List.getD_eq_getElem?_getD,List.getElem?_replicate];split<;>rfl
 obtain⟨r,hr,hq⟩:=up_l0 h a (by omega) da a.length 0 (a.length+1) (List.replicate (a.length+1) 0) (by omega) (by omega) (by simp) (Dig.rep (by decide) _) (by rw[val_replicate];simp[val]) (by rw[hz];exact h.P0) (fun t _=>hz t)
 refine⟨r,?_,hq⟩
 have hw:wrap64 ((a.length:Int)+1)=((a.length+1:Nat):Int):=by rw[w64 _ (by omega)];omega
 refine Ev.of (fun k=>whole_amount_up.mono a s k) (k:=a.length+1) ?_
 rw[whole_amount_up.f,hw,Int.toNat_natCast,if_pos (by omega),if_pos (by omega)]
 exact hr
theorem val_take_set (B:Int) (l:List Int) (i:Nat) (x:Int) (h:i<l.length):val B ((l.set i x).take (i+1))=val B (l.take i)+x*B^i:=by
 rw[val_take_getD,getD_set_eq _ _ _ h]
 congr 1
 rw[List.take_set_of_le (Nat.le_refl _)]
theorem mul_carry {g v c:Int} (hg:0≤g∧g<18446744073709551616) (hv:0≤v∧v<18446744073709551616) (hc:0≤c∧c<18446744073709551616) :
  ∃hi lo lo2 c2,bits_Mul64.f g v=some (hi,lo)∧bits_Add64.f lo c 0=some (lo2,c2)∧0≤lo2∧lo2<18446744073709551616∧0≤hi+c2∧hi+c2<18446744073709551616∧(hi+c2)*18446744073709551616+lo2=g*v+c:=by
 have hb:=mul_bound (M:=18446744073709551615) (x:=g) (y:=v) (by omega) (by omega)
 refine⟨_,_,_,_,Mul64_eq g v hg hv,Add64_eq _ _ _ (by omega) hc.1 (by omega),?_⟩
 generalize g*v=p at *
 refine⟨by omega,by omega,by omega,by omega,by omega⟩
theorem sub_carry {u lo b:Int} (hu:0≤u∧u<18446744073709551616) (hl:0≤lo∧lo<18446744073709551616) (hb:0≤b∧b≤1) :
  ∃s b2,bits_Sub64.f u lo b=some (s,b2)∧0≤s∧s<18446744073709551616∧0≤b2∧b2≤1∧s=u-lo-b+b2*18446744073709551616:=by
 refine⟨_,_,Sub64_eq u lo b hu.1 hl hb,by omega,by omega,by split<;>omega,by split<;>omega,by split<;>omega⟩
theorem sub_inv {N U V g u v c b c2 b2 s lo W B:Int} (hN:N=U-g*V+(c+b)*W) (h1:c2*B+lo=g*v+c) (h2:s=u-lo-b+b2*B):N+s*W=(U+u*W)-g*(V+v*W)+(c2+b2)*(W*B):=by
 have e1:g*(V+v*W)=g*V+(g*v)*W:=by rw[Int.mul_add,Int.mul_assoc]
 have e2:(c2+b2)*(W*B)=(c2*B)*W+(b2*B)*W:=by rw[Int.add_mul,Int.mul_comm W B,←Int.mul_assoc,←Int.mul_assoc]
 have e3:g*v=c2*B+lo-c:=by omega
 rw[e1,e2,hN,h2,e3]
 simp only[Int.add_mul,Int.sub_mul]
 omega
theorem subtract_step (k:Nat) (x v:List Int) (g c b hi lo lo2 c2 s b2:Int) (i n:Nat) (hn:v.length=n) (hi1:i<n) (hl:n≤8388608) (hx:i<x.length) (h1:bits_Mul64.f g (v.getD i 0)=some (hi,lo)) (h2:bits_Add64.f lo c 0=some (lo2,c2)) (h3:bits_Sub64.f (x.getD i 0) lo2 b=some (s,b2)) (h4:0≤hi+c2∧hi+c2<18446744073709551616) :
  whole_subtract.l0 (k+1) x v g c b v (n:Int) (i:Int)=whole_subtract.l0 k (x.set i s) v g (hi+c2) b2 v (n:Int) ((i+1:Nat):Int):=by
 have hwr:=step_wrap i n hi1 hl
 rw[whole_subtract.l0,if_pos (by omega),if_pos (by omega),if_pos (by omega),rd_getD,rd_getD,h1,Option.bind_some,h2,Option.bind_some,if_pos (by omega),h3,Option.bind_some,hwr,u64_in h4,Int.toNat_natCast]
theorem subtract_end (k:Nat) (x v:List Int) (g c b s b2:Int) (n:Nat) (hn:v.length=n) (hx:n<x.length) (h3:bits_Sub64.f (x.getD n 0) c b=some (s,b2)) :
  whole_subtract.l0 (k+1) x v g c b v (n:Int) (n:Int)=some ((b2==1),x.set n s):=by
 rw[whole_subtract.l0,if_neg (by omega),hn,if_pos (by omega),if_pos (by omega),rd_getD,h3,Option.bind_some,Int.toNat_natCast]
theorem subtract_l0 (v:List Int) (g:Int) (n:Nat) (hn:v.length=n) (hl:n≤8388608) (hg:0≤g∧g<18446744073709551616) (dv:Dig 18446744073709551616 v) (u:List Int) (hu:u.length=n+1) (du:Dig 18446744073709551616 u):∀(m i k:Nat) (x:List Int) (c b:Int),i+m=n→m<k→x.length=n+1→Dig 18446744073709551616 x→(∀t,i≤t→x.getD t 0=u.getD t 0)→0≤c∧c<18446744073709551616→0≤b∧b≤1→val 18446744073709551616 (x.take i)=val 18446744073709551616 (u.take i)-g*val 18446744073709551616 (v.take i)+(c+b)*18446744073709551616^i →
  ∃(b2:Int) (r:List Int),whole_subtract.l0 k x v g c b v (n:Int) (i:Int)=some ((b2==1),r)∧0≤b2∧b2≤1∧r.length=n+1∧Dig 18446744073709551616 r∧val 18446744073709551616 r=val 18446744073709551616 u-g*val 18446744073709551616 v+b2*18446744073709551616^(n+1):=by
 intro m
 induction m with
 | zero=>
  intro i k x c b hi hk hx dx hxu hc hb hv
  obtain⟨k,rfl⟩:∃j,k=j+1:=⟨k-1,by omega⟩
  have hin:i=n:=by omega
  subst hin
  have gu:=getD_dig (by decide) du i
  obtain⟨s,b2,h3,s0,s1,b0,b1,hs⟩:=sub_carry (u:=x.getD i 0) (by rw[hxu i (Nat.le_refl _)];exact gu) hc hb
  refine⟨b2,x.set i s,subtract_end k x v g c b s b2 i hn (by omega) h3,b0,b1,by simp[hx],dx.set i ⟨s0,s1⟩,?_⟩
  have e1:x.set i s=(x.set i s).take (i+1):=by rw[List.take_of_length_le (by simp[hx])]
  have e2:val 18446744073709551616 u=val 18446744073709551616 (u.take i)+u.getD i 0*18446744073709551616^i:=by
   rw[←val_take_getD,List.take_of_length_le (by omega)]
  rw[e1,val_take_set _ _ _ _ (by omega),hv,hs,hxu i (Nat.le_refl _),e2,show v.take i=v from List.take_of_length_le (by omega),Int.pow_succ]
  have e3:b2*(18446744073709551616^i*18446744073709551616)=b2*18446744073709551616*18446744073709551616^i:=by rw[Int.mul_comm (18446744073709551616^i),←Int.mul_assoc]
  rw[e3]
  simp only[Int.add_mul,Int.sub_mul]
  omega
 | succ m ih=>
  intro i k x c b hi hk hx dx hxu hc hb hv
  obtain⟨k,rfl⟩:∃j,k=j+1:=⟨k-1,by omega⟩
  have gu:=getD_dig (by decide) du i
  have gv:=getD_dig (by decide) dv i
  obtain⟨hi',lo,lo2,c2,h1,h2,l0,l1,p0,p1,hp⟩:=mul_carry hg gv hc
  obtain⟨s,b2,h3,s0,s1,b0,b1,hs⟩:=sub_carry (u:=x.getD i 0) (by rw[hxu i (Nat.le_refl _)];exact gu) ⟨l0,l1⟩ hb
  rw[subtract_step k x v g c b hi' lo lo2 c2 s b2 i n hn (by omega) hl (by omega) h1 h2 h3 ⟨p0,p1⟩]
  refine ih (i+1) k (x.set i s) (hi'+c2) b2 (by omega) (by omega) (by simp[hx]) (dx.set i ⟨s0,s1⟩) (fun t ht=>by rw[getD_set_ne _ _ _ _ (by omega)];exact hxu t (by omega)) ⟨p0,p1⟩ ⟨b0,b1⟩ ?_
  rw[val_take_set _ _ _ _ (by omega),val_take_getD,val_take_getD,Int.pow_succ]
  rw[hxu i (Nat.le_refl _)]at hs
  exact sub_inv hv hp hs
theorem subtract_ev (u v:List Int) (g:Int) (n:Nat) (hn:v.length=n) (hl:n≤8388608) (hg:0≤g∧g<18446744073709551616) (dv:Dig 18446744073709551616 v) (hu:u.length=n+1) (du:Dig 18446744073709551616 u) :
  ∃(b2:Int) (r:List Int),Ev (fun k=>whole_subtract.f k u v g) ((b2==1),r)∧0≤b2∧b2≤1∧r.length=n+1∧Dig 18446744073709551616 r∧val 18446744073709551616 r=val 18446744073709551616 u-g*val 18446744073709551616 v+b2*18446744073709551616^(n+1):=by
 obtain⟨b2,r,hr,hq⟩:=subtract_l0 v g n hn hl hg dv u hu du n 0 (n+1) u 0 0 (by omega) (by omega) hu du (fun _ _=>rfl) (by omega) (by omega) (by simp[val])
 refine⟨b2,r,Ev.of (fun k=>whole_subtract.mono u v g k) (k:=n+1) ?_,hq⟩
 rw[whole_subtract.f,hn]
 exact hr
theorem add_step' (k:Nat) (x v:List Int) (c:Int) (i n:Nat) (hn:v.length=n) (hi1:i<n) (hl:n≤8388608) (hx:i<x.length) (dx:Dig 18446744073709551616 x) (dv:Dig 18446744073709551616 v) (hc:0≤c∧c≤1) :
  whole_add.l0 (k+1) x v c v (n:Int) (i:Int)=whole_add.l0 k (x.set i ((x.getD i 0+v.getD i 0+c)%18446744073709551616)) v ((x.getD i 0+v.getD i 0+c)/18446744073709551616) v (n:Int) ((i+1:Nat):Int):=by
 have hwr:=step_wrap i n hi1 hl
 have gx:=getD_dig (by decide) dx i
 have gv:=getD_dig (by decide) dv i
 rw[whole_add.l0,if_pos (by omega),if_pos (by omega),if_pos (by omega),if_pos (by omega),rd_getD,rd_getD,Add64_eq _ _ _ gx.1 gv.1 hc,Option.bind_some,hwr,Int.toNat_natCast]
theorem add_end (k:Nat) (x v:List Int) (c:Int) (n:Nat) (hn:v.length=n) (hx:n<x.length) :
  whole_add.l0 (k+1) x v c v (n:Int) (n:Int)=some (x.set n (IntKind.u64.wrap (x.getD n 0+c))):=by
 rw[whole_add.l0,if_neg (by omega),hn,if_pos (by omega),if_pos (by omega),rd_getD,Int.toNat_natCast]
theorem add_l0 (v:List Int) (n:Nat) (hn:v.length=n) (hl:n≤8388608) (dv:Dig 18446744073709551616 v) (u:List Int) (hu:u.length=n+1) (du:Dig 18446744073709551616 u):∀(m i k:Nat) (x:List Int) (c:Int),i+m=n→m<k→x.length=n+1→Dig 18446744073709551616 x→(∀t,i≤t→x.getD t 0=u.getD t 0)→0≤c∧c≤1→val 18446744073709551616 (x.take i)+c*18446744073709551616^i=val 18446744073709551616 (u.take i)+val 18446744073709551616 (v.take i) →
  ∃(b2:Int) (r:List Int),whole_add.l0 k x v c v (n:Int) (i:Int)=some r∧0≤b2∧r.length=n+1∧Dig 18446744073709551616 r∧val 18446744073709551616 r+b2*18446744073709551616^(n+1)=val 18446744073709551616 u+val 18446744073709551616 v:=by
 intro m
 induction m with
 | zero=>
  intro i k x c hi hk hx dx hxu hc hv
  obtain⟨k,rfl⟩:∃j,k=j+1:=⟨k-1,by omega⟩
  have hin:i=n:=by omega
  subst hin
  have gu:=getD_dig (by decide) du i
  rw[add_end k x v c i hn (by omega),hxu i (Nat.le_refl _),IntKind.wrap_u64]
  refine⟨(u.getD i 0+c)/18446744073709551616,_,rfl,by omega,by simp[hx],dx.set i (by omega),?_⟩
  have e1:∀y,x.set i y=(x.set i y).take (i+1):=fun y=>by rw[List.take_of_length_le (by simp[hx])]
  have e2:val 18446744073709551616 u=val 18446744073709551616 (u.take i)+u.getD i 0*18446744073709551616^i:=by
   rw[←val_take_getD,List.take_of_length_le (by omega)]
  rw[e1,val_take_set _ _ _ _ (by omega),e2,Int.pow_succ]
  rw[show v.take i=v from List.take_of_length_le (by omega)]at hv
  have:=add_step (val 18446744073709551616 (x.take i)) c ((u.getD i 0+c)/18446744073709551616) ((u.getD i 0+c)%18446744073709551616) (u.getD i 0) 0 _ _ (18446744073709551616^i) 18446744073709551616 (by omega) hv
  omega
 | succ m ih=>
  intro i k x c hi hk hx dx hxu hc hv
  obtain⟨k,rfl⟩:∃j,k=j+1:=⟨k-1,by omega⟩
  have gu:=getD_dig (by decide) du i
  have gv:=getD_dig (by decide) dv i
  rw[add_step' k x v c i n hn (by omega) hl (by omega) dx dv hc,hxu i (Nat.le_refl _)]
  refine ih (i+1) k _ _ (by omega) (by omega) (by simp[hx]) (dx.set i (by omega)) (fun t ht=>by rw[getD_set_ne _ _ _ _ (by omega)];exact hxu t (by omega)) (by omega) ?_
  rw[val_take_set _ _ _ _ (by omega),val_take_getD,val_take_getD,Int.pow_succ]
  exact add_step _ c _ _ _ _ _ _ _ _ (by omega) hv
theorem add_ev' (u v:List Int) (n:Nat) (hn:v.length=n) (hl:n≤8388608) (dv:Dig 18446744073709551616 v) (hu:u.length=n+1) (du:Dig 18446744073709551616 u) :
  ∃(b2:Int) (r:List Int),Ev (fun k=>whole_add.f k u v) r∧0≤b2∧r.length=n+1∧Dig 18446744073709551616 r∧val 18446744073709551616 r+b2*18446744073709551616^(n+1)=val 18446744073709551616 u+val 18446744073709551616 v:=by
 obtain⟨b2,r,hr,hq⟩:=add_l0 v n hn hl dv u hu du n 0 (n+1) u 0 (by omega) (by omega) hu du (fun _ _=>rfl) (by omega) (by simp[val])
 refine⟨b2,r,Ev.of (fun k=>whole_add.mono u v k) (k:=n+1) ?_,hq⟩
 rw[whole_add.f,hn]
 exact hr
theorem bitLen_up {x:Nat} (h0:0<x) (h:x<2^64):1≤Lib.bitLen x∧Lib.bitLen x≤64∧x<2^Lib.bitLen x∧2^(Lib.bitLen x-1)≤x:=by
 have h1:=Lib.bitLen_half x (by omega) h
 have h2:=Lib.bitLen_le x 64 (by omega) h
 refine⟨by omega,h2,?_,?_⟩
 ·refine Classical.byContradiction fun hc=>?_
  have h3:=Lib.bitLen_shift (Lib.bitLen x) x (by omega) h
  have h4:0<x/2^Lib.bitLen x:=Nat.div_pos (by omega) (Nat.pow_pos (by decide))
  have h5:=Lib.bitLen_half (x/2^Lib.bitLen x) (by omega) (Nat.lt_of_le_of_lt (Nat.div_le_self _ _) h)
  omega
 refine Classical.byContradiction fun hc=>?_
 have h3:=Lib.bitLen_le x (Lib.bitLen x-1) (by omega) (by omega)
 omega
theorem clz {x:Int} (h:0<x∧x<18446744073709551616):∃s P Q,bits_LeadingZeros64.f x=some s∧Sh s P Q∧9223372036854775808≤x*P∧x*P<18446744073709551616:=by
 obtain⟨n,rfl⟩:=Int.eq_ofNat_of_zero_le (Int.le_of_lt h.1)
 have hn:0<n∧n<2^64:=by omega
 obtain⟨b1,b2,b3,b4⟩:=bitLen_up hn.1 hn.2
 refine⟨64-(Lib.bitLen n:Int),2^(64-Lib.bitLen n),2^Lib.bitLen n,?_,⟨by omega,Int.pow_pos (by decide),Int.pow_pos (by decide),?_,⟨_,rfl,by omega⟩,⟨_,rfl,by omega⟩⟩,?_,?_⟩
 ·rw[bits_LeadingZeros64.f,if_pos (by omega),Int.toNat_natCast]
 ·rw[←Int.pow_add,show 64-Lib.bitLen n+Lib.bitLen n=64 from by omega];decide
 ·have e:(9223372036854775808:Int)=((2^(Lib.bitLen n-1)*2^(64-Lib.bitLen n):Nat):Int):=by
   rw[←Nat.pow_add,show Lib.bitLen n-1+(64-Lib.bitLen n)=63 from by omega];rfl
  rw[e,show((n:Int)*2^(64-Lib.bitLen n))=((n*2^(64-Lib.bitLen n):Nat):Int) from by simp]
  exact Int.ofNat_le.2 (Nat.mul_le_mul_right _ b4)
 have e:(18446744073709551616:Int)=((2^Lib.bitLen n*2^(64-Lib.bitLen n):Nat):Int):=by
  rw[←Nat.pow_add,show Lib.bitLen n+(64-Lib.bitLen n)=64 from by omega];rfl
 rw[e,show((n:Int)*2^(64-Lib.bitLen n))=((n*2^(64-Lib.bitLen n):Nat):Int) from by simp]
 exact Int.ofNat_lt.2 (Nat.mul_lt_mul_of_pos_right b3 (Nat.pow_pos (by decide)))
theorem scale_div {X a P G r:Int} (hP:0<P) (ha:0<a) (h:X*P=G*(a*P)+r) (h0:0≤r) (h1:r<a*P):X/a=G∧X%a=r/P:=by
 have e:r=(X-G*a)*P:=by rw[Int.sub_mul,h,Int.mul_assoc];omega
 have d0:0≤X-G*a:=by
  refine Classical.byContradiction fun hc=>?_
  have:=Int.mul_le_mul_of_nonneg_right (show X-G*a ≤ -1 by omega) (Int.le_of_lt hP)
  omega
 have d1:X-G*a<a:=by
  refine Classical.byContradiction fun hc=>?_
  have:=Int.mul_le_mul_of_nonneg_right (show a≤X-G*a by omega) (Int.le_of_lt hP)
  omega
 have hq:X/a=G:=div_eq ha (by omega) (by rw[Int.add_mul,Int.one_mul];omega)
 refine⟨hq,?_⟩
 have h2:=Int.mul_ediv_add_emod X a
 rw[hq,Int.mul_comm a G]at h2
 rw[e,Int.mul_ediv_cancel _ (Int.ne_of_gt hP)]
 omega
theorem tdivmod {u d:Int} (hu:0≤u∧u<18446744073709551616) (hd:0<d):IntKind.u64.wrap (Int.tdiv u d)=u/d∧IntKind.u64.wrap (u-IntKind.u64.wrap (IntKind.u64.wrap (Int.tdiv u d)*d))=u%d:=by
 have h1:=Int.mul_ediv_add_emod u d
 have h2:=Int.emod_nonneg u (Int.ne_of_gt hd)
 have h3:=Int.emod_lt_of_pos u hd
 have h4:0≤u/d:=Int.ediv_nonneg hu.1 (Int.le_of_lt hd)
 have h5:u/d≤u:=by
  have:=Int.mul_le_mul_of_nonneg_right (show(1:Int)≤d by omega) h4
  rw[Int.one_mul]at this;omega
 have e:IntKind.u64.wrap (Int.tdiv u d)=u/d:=by
  rw[Int.tdiv_eq_ediv_of_nonneg hu.1,u64_in ⟨h4,by omega⟩]
 refine⟨e,?_⟩
 have h6:0≤u/d*d:=Int.mul_nonneg h4 (Int.le_of_lt hd)
 rw[Int.mul_comm]at h1
 rw[e,u64_in (x:=u/d*d) ⟨h6,by omega⟩,show u-u/d*d=u%d from by omega,u64_in ⟨h2,by omega⟩]
theorem rest_eq {y u d g:Int} (hy:0<y∧y<18446744073709551616) (hg:(u*4294967296+d)/y=g):IntKind.u64.wrap (IntKind.u64.wrap (IntKind.u64.wrap (u*4294967296)+d)-IntKind.u64.wrap (g*y))=(u*4294967296+d)%y:=by
 have h1:=Int.emod_nonneg (u*4294967296+d) (show y≠0 by omega)
 have h2:=Int.emod_lt_of_pos (u*4294967296+d) hy.1
 have h3:=Int.mul_ediv_add_emod (u*4294967296+d) y
 rw[hg,Int.mul_comm y g]at h3
 simp only[IntKind.wrap_u64]
 omega
theorem Div64_j2 {y yn1 yn0 u d1 d0 s P Q:Int} (hs:Sh s P Q) (hy:y=yn1*4294967296+yn0) (y1:2147483648≤yn1∧yn1<4294967296) (y0:0≤yn0∧yn0<4294967296) (hu:0≤u∧u<y) (h1:0≤d1∧d1<4294967296) (h0:0≤d0∧d0<4294967296) :
  Ev (fun k=>bits_Div64.j2 k y s yn1 yn0 u d1 d0 ((u*4294967296+d1)/y)) ((u*4294967296+d1)/y*4294967296+((u*4294967296+d1)%y*4294967296+d0)/y,((u*4294967296+d1)%y*4294967296+d0)%y/P):=by
 have hyM:0<y∧y<18446744073709551616:=by omega
 have hst:=Half.start hy y1 y0 hu h1
 have hr0:=Int.emod_nonneg (u*4294967296+d1) (show y≠0 by omega)
 have hr1:=Int.emod_lt_of_pos (u*4294967296+d1) hyM.1
 obtain⟨K,hK⟩:=Div64_l1 hs hyM ((u*4294967296+d1)/y) hst.quot _ _ _ (Nat.le_refl _) (Half.start hy y1 y0 ⟨hr0,hr1⟩ h0)
 obtain⟨t1,t2⟩:=tdivmod (u:=(u*4294967296+d1)%y) (d:=yn1) ⟨hr0,by omega⟩ (by omega)
 have he:=rest_eq hyM (rfl:(u*4294967296+d1)/y=_)
 refine⟨K+1,fun k hk=>?_⟩
 obtain⟨k,rfl⟩:∃j,k=j+1:=⟨k-1,by omega⟩
 have hk:=hK k (by omega)
 show bits_Div64.j2 (k+1) y s yn1 yn0 u d1 d0 ((u*4294967296+d1)/y)=_
 rw[bits_Div64.j2,if_neg (show ¬yn1=0 by omega),he,t2,t1]
 exact hk
theorem Div64_ev {a0 a1 a2:Int} (h0:0≤a0∧a0<a2) (h1:0≤a1∧a1<18446744073709551616) (h2:a2<18446744073709551616):Ev (fun k=>bits_Div64.f k a0 a1 a2) ((a0*18446744073709551616+a1)/a2,(a0*18446744073709551616+a1)%a2):=by
 by_cases hz:a0=0
 ·refine⟨0,fun k _=>?_⟩
  show bits_Div64.f k a0 a1 a2=_
  have h4:0≤a1/a2:=Int.ediv_nonneg h1.1 (by omega)
  have h5:a1/a2≤a1:=Int.ediv_le_self _ h1.1
  rw[bits_Div64.f,if_neg (by omega),if_neg (by omega),if_pos hz,Int.tdiv_eq_ediv_of_nonneg h1.1,Int.tmod_eq_emod_of_nonneg h1.1,u64_in ⟨h4,by omega⟩,hz,Int.zero_mul,Int.zero_add]
 obtain⟨s,P,Q,hc,hs,hP1,hP2⟩:=clz (x:=a2) (by omega)
 have hs0:=hs.s0
 have hP0:=hs.P0
 have hQ0:=hs.Q0
 have haQ:a2<Q:=by
  refine Classical.byContradiction fun hx=>?_
  have:=Int.mul_le_mul_of_nonneg_right (show Q≤a2 by omega) (Int.le_of_lt hP0)
  rw[Int.mul_comm Q P,hs.PQ]at this
  omega
 have e2:shl .u64 a2 s=a2*P:=by rw[hs.eqL (by omega),Int.emod_eq_of_lt (by omega) haQ]
 have e0:shl .u64 a0 s=a0*P:=by rw[hs.eqL (by omega),Int.emod_eq_of_lt (by omega) (by omega)]
 have e1:shl .u64 a1 s=a1%Q*P:=hs.eqL h1
 have e3:shr .u64 a1 (64-s)=a1/Q:=hs.eqR'
 obtain⟨p1,p2,p3,p4,p5,_⟩:=shl_parts hP0 hQ0 hs.PQ h1
 obtain⟨t,et,_⟩:=hs.P1
 have a0P:0≤a0*P:=Int.mul_nonneg h0.1 (Int.le_of_lt hP0)
 have a0P2:a0*P+P≤a2*P:=by
  have:=Int.mul_le_mul_of_nonneg_right (show a0+1≤a2 by omega) (Int.le_of_lt hP0)
  rw[Int.add_mul,Int.one_mul]at this;exact this
 have hPle:=hs.P_le
 have eor:Go.bits .or .u64 (a0*P) (a1/Q)=a0*P+a1/Q:=(or_add t ⟨a0P,by omega⟩ ⟨a0,by rw[et]⟩ (by rw[←et];exact⟨p2,p3⟩) (by omega)).1
 have hX:(a0*18446744073709551616+a1)*P=(a0*P+a1/Q)*18446744073709551616+a1%Q*P:=by
  rw[Int.add_mul,Int.add_mul,p1,Int.mul_assoc,Int.mul_comm 18446744073709551616 P,←Int.mul_assoc];omega
 have hw1:IntKind.u64.wrap s=s:=u64_in (by omega)
 have hcnt:=hs.count
 clear p1
 generalize hyy:a2*P=y at *
 generalize huu:a0*P+a1/Q=u at *
 generalize hww:a1%Q*P=w at *
 have hu:0≤u∧u<y:=by omega
 have hyn:y=y/4294967296*4294967296+y%4294967296:=by omega
 have y1:2147483648≤y/4294967296∧y/4294967296<4294967296:=by omega
 have y0:0≤y%4294967296∧y%4294967296<4294967296:=by omega
 have w1:0≤w/4294967296∧w/4294967296<4294967296:=by omega
 have w0:0≤w%4294967296∧w%4294967296<4294967296:=by omega
 obtain⟨K,hK⟩:=Div64_l0 s (w%4294967296) _ (Div64_j2 hs hyn y1 y0 hu w1 w0) _ _ _ (Nat.le_refl _) (Half.start hyn y1 y0 hu w1)
 obtain⟨t1,t2⟩:=tdivmod (u:=u) (d:=y/4294967296) (by omega) (by omega)
 have hres:=scale_div (X:=a0*18446744073709551616+a1) (a:=a2) (P:=P) (G:=(u*4294967296+w/4294967296)/y*4294967296+((u*4294967296+w/4294967296)%y*4294967296+w%4294967296)/y) (r:=((u*4294967296+w/4294967296)%y*4294967296+w%4294967296)%y) hP0 (by omega) (by
  have g1:=Int.mul_ediv_add_emod (u*4294967296+w/4294967296) y
  have g2:=Int.mul_ediv_add_emod ((u*4294967296+w/4294967296)%y*4294967296+w%4294967296) y
  rw[hX,hyy,Int.add_mul,Int.mul_comm _ y,Int.mul_comm _ y,←Int.mul_assoc]
  omega) (Int.emod_nonneg _ (by omega)) (by rw[hyy];exact Int.emod_lt_of_pos _ (by omega))
 rw[hres.1,hres.2]
 refine⟨K,fun k hk=>?_⟩
 have hk:=hK k hk
 show bits_Div64.f k a0 a1 a2=_
 rw[bits_Div64.f,if_neg (by omega),if_neg (by omega),if_neg hz,hc,Option.bind_some,hw1,if_pos hs0.1,hcnt,if_pos (by omega),e2,e0,e1,e3,eor,if_neg (by omega),and32 y (by omega),and32 w (by omega),t2,t1]
 exact hk
structure Fix (N vn1 vn2 un2 g r:Int):Prop where
 hv1:0<vn1∧vn1<18446744073709551616
 hv2:0≤vn2∧vn2<18446744073709551616
 hu2:0≤un2∧un2<18446744073709551616
 hg:0≤g∧g<18446744073709551616
 hr:0≤r∧r<18446744073709551616
 hN:N=g*vn1+r
 top:N*18446744073709551616+un2<(g+1)*(vn1*18446744073709551616+vn2)
theorem Fix.eqs {N vn1 vn2 un2 g r:Int} (h:Fix N vn1 vn2 un2 g r):N*18446744073709551616+un2-g*(vn1*18446744073709551616+vn2)=r*18446744073709551616+un2-g*vn2:=by
 have:=h.hN
 rw[Int.mul_add,←Int.mul_assoc]
 generalize g*vn1=x at *
 generalize g*vn2=y at *
 omega
theorem fix_run {N vn1 vn2 un2:Int}:∀(n:Nat) (g r:Int),(18446744073709551616-r).toNat≤n→Fix N vn1 vn2 un2 g r→∃g2,quo_fix (n+1) g r vn2 vn1 un2=some g2∧0≤g2∧g2<18446744073709551616∧g2*(vn1*18446744073709551616+vn2)≤N*18446744073709551616+un2∧N*18446744073709551616+un2<(g2+1)*(vn1*18446744073709551616+vn2):=by
 intro n
 induction n with
 | zero=>intro g r hn h;have:=h.hr;omega
 | succ n ih=>
  intro g r hn h
  have e:=h.eqs
  have hr:=h.hr
  have hu:=h.hu2
  have hb:=mul_bound (M:=18446744073709551615) (x:=g) (y:=vn2) (by have:=h.hg;omega) (by have:=h.hv2;omega)
  rw[quo_fix,Mul64_eq g vn2 h.hg h.hv2,Option.bind_some]
  have hp:g*vn2=g*vn2/18446744073709551616*18446744073709551616+g*vn2%18446744073709551616:=by omega
  have hl:0≤g*vn2%18446744073709551616∧g*vn2%18446744073709551616<18446744073709551616:=by omega
  show ∃g2,(if g*vn2/18446744073709551616<r then some g else if g*vn2/18446744073709551616=r∧g*vn2%18446744073709551616≤un2 then some g else _)=some g2∧_
  by_cases hc:g*vn2≤r*18446744073709551616+un2
  ·refine⟨g,?_,h.hg.1,h.hg.2,by omega,h.top⟩
   by_cases h1:g*vn2/18446744073709551616<r
   ·rw[if_pos h1]
   rw[if_neg h1,if_pos (by omega)]
  have h1:¬g*vn2/18446744073709551616<r:=by omega
  have h2:¬(g*vn2/18446744073709551616=r∧g*vn2%18446744073709551616≤un2):=by omega
  rw[if_neg h1,if_neg h2]
  have hv1:=h.hv1
  have hg1:1≤g:=by
   have:=h.hg
   refine Classical.byContradiction fun hx=>?_
   have:g=0:=by omega
   rw[this]at hc;omega
  have htop:N*18446744073709551616+un2<(g-1+1)*(vn1*18446744073709551616+vn2):=by
   rw[show g-1+1=g from by omega];omega
  have hg':=h.hg
  rw[u64_in (x:=g-1) (by omega)]
  by_cases ho:r+vn1<18446744073709551616
  ·rw[u64_in (x:=r+vn1) (by omega),if_neg (by omega)]
   refine ih (g-1) (r+vn1) (by omega) ⟨h.hv1,h.hv2,h.hu2,by omega,by omega,?_,htop⟩
   rw[Int.sub_mul,Int.one_mul];have:=h.hN;omega
  have hw:IntKind.u64.wrap (r+vn1)=r+vn1-18446744073709551616:=by rw[IntKind.wrap_u64];omega
  rw[hw,if_pos (by omega)]
  refine⟨g-1,rfl,by omega,by omega,?_,htop⟩
  have h9:(g-1)*vn2=g*vn2-vn2:=by rw[Int.sub_mul,Int.one_mul]
  have h8:=h.hv2
  have h10:(g-1)*(vn1*18446744073709551616+vn2)=g*(vn1*18446744073709551616+vn2)-(vn1*18446744073709551616+vn2):=by rw[Int.sub_mul,Int.one_mul]
  rw[h10]
  omega
theorem guess_ev {un un1 un2 vn1 vn2:Int} (hu:0≤un∧un<18446744073709551616) (hu1:0≤un1∧un1<18446744073709551616) (hu2:0≤un2∧un2<18446744073709551616) (hv1:9223372036854775808≤vn1∧vn1<18446744073709551616) (hv2:0≤vn2∧vn2<18446744073709551616) :
  ∃g,Ev (fun k=>quo_guess k un un1 un2 vn1 vn2) g∧0≤g∧g<18446744073709551616∧((g*(vn1*18446744073709551616+vn2)≤(un*18446744073709551616+un1)*18446744073709551616+un2∧(un*18446744073709551616+un1)*18446744073709551616+un2<(g+1)*(vn1*18446744073709551616+vn2))∨(vn1≤un∧g=18446744073709551615)):=by
 by_cases hc:un<vn1
 ·obtain⟨K,hK⟩:=Div64_ev (a0:=un) (a1:=un1) (a2:=vn1) ⟨hu.1,hc⟩ hu1 hv1.2
  have h1:=Int.mul_ediv_add_emod (un*18446744073709551616+un1) vn1
  have h2:=Int.emod_nonneg (un*18446744073709551616+un1) (show vn1≠0 by omega)
  have h3:=Int.emod_lt_of_pos (un*18446744073709551616+un1) (show 0<vn1 by omega)
  have h4:0≤(un*18446744073709551616+un1)/vn1:=Int.ediv_nonneg (by omega) (by omega)
  have h5:(un*18446744073709551616+un1)/vn1<18446744073709551616:=Int.ediv_lt_of_lt_mul (by omega) (by omega)
  rw[Int.mul_comm]at h1
  obtain⟨g,hg,g0,g1,g2,g3⟩:=fix_run (N:=un*18446744073709551616+un1) (vn1:=vn1) (vn2:=vn2) (un2:=un2) _ _ _ (Nat.le_refl _) ⟨by omega,hv2,hu2,⟨h4,h5⟩,⟨h2,by omega⟩,h1.symm,by
   have h6:0≤((un*18446744073709551616+un1)/vn1+1)*vn2:=Int.mul_nonneg (by omega) hv2.1
   rw[Int.mul_add,←Int.mul_assoc,Int.add_mul ((un*18446744073709551616+un1)/vn1) 1 vn1,Int.one_mul]
   omega⟩
  obtain⟨J,hJ⟩:=Ev.of (fun k=>quo_fix.mono k _ _ _ _ _) hg
  refine⟨g,⟨max K J,fun k hk=>?_⟩,g0,g1,.inl ⟨g2,g3⟩⟩
  have e1:bits_Div64.f k un un1 vn1=_:=hK k (by omega)
  have e2:=hJ k (by omega)
  show quo_guess k un un1 un2 vn1 vn2=some g
  rw[quo_guess,if_pos hc,e1,Option.bind_some]
  exact e2
 refine⟨18446744073709551615,⟨0,fun k _=>?_⟩,by omega,by omega,.inr ⟨by omega,rfl⟩⟩
 show quo_guess k un un1 un2 vn1 vn2=_
 rw[quo_guess,if_neg hc]
theorem digit_bounds {U V W U0 V0 g un un1 un2 vn1 vn2:Int} (hW:0<W) (hU:U=U0+((un*18446744073709551616+un1)*18446744073709551616+un2)*W) (hV:V=V0+(vn1*18446744073709551616+vn2)*W) (hU0:0≤U0∧U0<W) (hV0:0≤V0∧V0<W) (hlt:U<V*18446744073709551616)
  (hu:0≤un) (hu1:0≤un1) (hu2:0≤un2) (hv1:9223372036854775808≤vn1) (hv2:0≤vn2∧vn2<18446744073709551616) (hg:0≤g∧g<18446744073709551616)
  (h:(g*(vn1*18446744073709551616+vn2)≤(un*18446744073709551616+un1)*18446744073709551616+un2∧(un*18446744073709551616+un1)*18446744073709551616+un2<(g+1)*(vn1*18446744073709551616+vn2))∨(vn1≤un∧g=18446744073709551615)):U<(g+1)*V∧(g-1)*V≤U:=by
 have hV2:V≤(vn1*18446744073709551616+vn2+1)*W:=by rw[Int.add_mul _ 1 W,Int.one_mul];omega
 have hVn:0≤V:=by
  have:=Int.mul_nonneg (show 0≤vn1*18446744073709551616+vn2 by omega) (Int.le_of_lt hW)
  omega
 rcases h with⟨h1,h2⟩|⟨h1,h2⟩
 ·have hT0:0≤(un*18446744073709551616+un1)*18446744073709551616+un2:=by omega
  have hv20:18446744073709551616≤vn1*18446744073709551616+vn2:=by omega
  generalize (un*18446744073709551616+un1)*18446744073709551616+un2=T at *
  generalize vn1*18446744073709551616+vn2=v2 at *
  constructor
  ·have a1:=Int.mul_le_mul_of_nonneg_right (show T+1≤(g+1)*v2 by omega) (Int.le_of_lt hW)
   have a2:=Int.mul_le_mul_of_nonneg_left (show v2*W≤V by omega) (show 0≤g+1 by omega)
   rw[Int.add_mul,Int.one_mul,Int.mul_assoc]at a1
   omega
  by_cases hg0:g=0
  ·rw[hg0]
   have:=Int.mul_nonneg hT0 (Int.le_of_lt hW)
   omega
  have a1:=Int.mul_le_mul_of_nonneg_left hV2 (show 0≤g-1 by omega)
  rw[←Int.mul_assoc]at a1
  have a2:(g-1)*(v2+1)≤T:=by
   rw[Int.mul_add,Int.mul_one,Int.sub_mul,Int.one_mul];omega
  have a3:=Int.mul_le_mul_of_nonneg_right a2 (Int.le_of_lt hW)
  omega
 subst h2
 constructor
 ·rw[Int.mul_comm V]at hlt;exact hlt
 have a1:=Int.mul_le_mul_of_nonneg_left hV2 (show(0:Int)≤18446744073709551615-1 by decide)
 rw[←Int.mul_assoc]at a1
 have a2:(18446744073709551615-1)*(vn1*18446744073709551616+vn2+1)≤(un*18446744073709551616+un1)*18446744073709551616+un2:=by omega
 have a3:=Int.mul_le_mul_of_nonneg_right a2 (Int.le_of_lt hW)
 omega
theorem top_two (v:List Int) (m:Nat) (hl:v.length=m+2):val 18446744073709551616 v=val 18446744073709551616 (v.take m)+(v.getD (m+1) 0*18446744073709551616+v.getD m 0)*18446744073709551616^m:=by
 have e:val 18446744073709551616 v=val 18446744073709551616 (v.take (m+1+1)):=by rw[List.take_of_length_le (by omega)]
 rw[e,val_take_getD,val_take_getD,Int.pow_succ,Int.mul_comm (18446744073709551616^m) 18446744073709551616,←Int.mul_assoc,Int.add_mul]
 omega
theorem top_three (S:List Int) (m:Nat) (hl:S.length=m+3):val 18446744073709551616 S=val 18446744073709551616 (S.take m)+((S.getD (m+2) 0*18446744073709551616+S.getD (m+1) 0)*18446744073709551616+S.getD m 0)*18446744073709551616^m:=by
 have e:val 18446744073709551616 S=val 18446744073709551616 (S.take (m+2+1)):=by rw[List.take_of_length_le (by omega)]
 rw[e,val_take_getD,val_take_getD,val_take_getD,show(18446744073709551616:Int)^(m+2)=18446744073709551616^m*18446744073709551616*18446744073709551616 from by rw[Int.pow_succ,Int.pow_succ],Int.pow_succ]
 generalize (18446744073709551616:Int)^m=W
 generalize S.getD (m+2) 0=a
 generalize S.getD (m+1) 0=b
 generalize S.getD m 0=c
 have e1:b*(W*18446744073709551616)=b*18446744073709551616*W:=by rw[Int.mul_comm W,←Int.mul_assoc]
 have e2:a*(W*18446744073709551616*18446744073709551616)=a*18446744073709551616*18446744073709551616*W:=by
  rw[Int.mul_assoc W,Int.mul_comm W,←Int.mul_assoc,←Int.mul_assoc]
 have e3:((a*18446744073709551616+b)*18446744073709551616+c)*W=a*18446744073709551616*18446744073709551616*W+b*18446744073709551616*W+c*W:=by
  rw[Int.add_mul _ b,Int.add_mul,Int.add_mul]
 rw[e1,e2,e3]
 omega
theorem seg_getD (u:List Int) (j n t:Nat) (h:t<n):((u.drop j).take n).getD t 0=u.getD (j+t) 0:=by
 rw[List.getD_eq_getElem?_getD,List.getD_eq_getElem?_getD,List.getElem?_take_of_lt h,List.getElem?_drop]
theorem go_digit (u v:List Int) (n j:Nat) (hn:v.length=n) (hn2:2≤n) (hl:n≤8388600) (hj:j+n<u.length) (du:Dig 18446744073709551616 u) (dv:Dig 18446744073709551616 v) (hv1:9223372036854775808≤v.getD (n-1) 0) (hlt:val 18446744073709551616 ((u.drop j).take (n+1))<val 18446744073709551616 v*18446744073709551616) (hjl:u.length≤8388608) :
  ∃(g:Int) (S:List Int) (K:Nat),0≤g∧g<18446744073709551616∧S.length=n+1∧Dig 18446744073709551616 S∧val 18446744073709551616 S<val 18446744073709551616 v∧val 18446744073709551616 ((u.drop j).take (n+1))=g*val 18446744073709551616 v+val 18446744073709551616 S ∧
   ∀k,K≤k→∀q:List Int,j<q.length→quo_go (k+1) u v q (j:Int)=quo_go k (splice u j S) v (q.set j g) ((j:Int)-1):=by
 obtain⟨m,rfl⟩:∃m,n=m+2:=⟨n-2,by omega⟩
 have hSl:((u.drop j).take (m+2+1)).length=m+3:=by simp;omega
 have dS:Dig 18446744073709551616 ((u.drop j).take (m+2+1)):=(du.drop j).take _
 have t3:=top_three _ m hSl
 have t2:=top_two v m hn
 rw[seg_getD _ _ _ _ (by omega),seg_getD _ _ _ _ (by omega),seg_getD _ _ _ _ (by omega)]at t3
 have d0:=getD_dig (by decide) du (j+m)
 have d1:=getD_dig (by decide) du (j+(m+1))
 have d2:=getD_dig (by decide) du (j+(m+2))
 have w0:=getD_dig (by decide) dv m
 have w1:=getD_dig (by decide) dv (m+1)
 rw[show m+2-1=m+1 from by omega]at hv1
 have U0:=val_nonneg (B:=18446744073709551616) (by decide) (dS.take m)
 have U1:=val_lt (B:=18446744073709551616) (by decide) (dS.take m)
 rw[List.length_take,Nat.min_eq_left (by omega)]at U1
 have V0:=val_nonneg (B:=18446744073709551616) (by decide) (dv.take m)
 have V1:=val_lt (B:=18446744073709551616) (by decide) (dv.take m)
 rw[List.length_take,Nat.min_eq_left (by omega)]at V1
 obtain⟨g,⟨K1,hg⟩,g0,g1,hgc⟩:=guess_ev d2 d1 d0 ⟨hv1,w1.2⟩ w0
 obtain⟨b1,b2⟩:=digit_bounds (pow_pos (by decide) m) t3 t2 ⟨U0,U1⟩ ⟨V0,V1⟩ hlt d2.1 d1.1 d0.1 hv1 w0 ⟨g0,g1⟩ hgc
 clear t3 t2 hgc U0 U1 V0 V1
 have hUn:=val_nonneg (B:=18446744073709551616) (by decide) dS
 have hVn:=val_nonneg (B:=18446744073709551616) (by decide) dv
 have hVl:=val_lt (B:=18446744073709551616) (by decide) dv
 rw[hn]at hVl
 have hpw:(18446744073709551616:Int)^(m+2)≤18446744073709551616^(m+2+1):=pow_le_pow (by decide) (by omega)
 obtain⟨bb,r,⟨K2,hr⟩,bb0,bb1,hrl,dr,hrv⟩:=subtract_ev ((u.drop j).take (m+2+1)) v g (m+2) hn (by omega) ⟨g0,g1⟩ dv (by rw[hSl]) dS
 have r0:=val_nonneg (B:=18446744073709551616) (by decide) dr
 have r1:=val_lt (B:=18446744073709551616) (by decide) dr
 rw[hrl]at r1
 have head:∀k (q:List Int),K1≤k→K2≤k→j<q.length→quo_go (k+1) u v q (j:Int)=if(bb==1)=true then(whole_add.f k r v).bind fun s=>quo_go k (splice u j s) v (q.set j (IntKind.u64.wrap (g-1))) ((j:Int)-1) else quo_go k (splice u j r) v (q.set j g) ((j:Int)-1):=by
  intro k q k1 k2 hq
  have e1:=hg k k1
  have e2:whole_subtract.f k ((u.drop j).take (m+2+1)) v g=_:=hr k k2
  have c1:(j:Int)+(v.length:Int)<(u.length:Int)∧(j:Int)<(q.length:Int)∧2≤v.length:=by omega
  have i1:(j:Int)+(v.length:Int)=((j+(m+2):Nat):Int):=by omega
  have i2:((j+(m+2):Nat):Int)-1=((j+(m+1):Nat):Int):=by omega
  have i3:((j+(m+2):Nat):Int)-2=((j+m:Nat):Int):=by omega
  have i4:(v.length:Int)-1=((m+1:Nat):Int):=by omega
  have i5:(v.length:Int)-2=((m:Nat):Int):=by omega
  rw[quo_go,if_neg (by omega),if_pos c1,i4,i5,i1,i2,i3,rd_getD,rd_getD,rd_getD,rd_getD,rd_getD,Int.toNat_natCast,hn]
  replace e1:quo_guess k (u.getD (j+(m+2)) 0) (u.getD (j+(m+1)) 0) (u.getD (j+m) 0) (v.getD (m+1) 0) (v.getD m 0)=some g:=e1
  rw[e1,Option.bind_some,e2,Option.bind_some]
 generalize hU:val 18446744073709551616 ((u.drop j).take (m+2+1))=U at *
 generalize hVV:val 18446744073709551616 v=V at *
 have bx1:(g+1)*V=g*V+V:=by rw[Int.add_mul,Int.one_mul]
 have bx2:(g-1)*V=g*V-V:=by rw[Int.sub_mul,Int.one_mul]
 by_cases hneg:U-g*V<0
 ·have hbb:bb=1:=by
   have:bb=0∨bb=1:=by omega
   rcases this with h|h
   ·rw[h,Int.zero_mul]at hrv;omega
   exact h
  subst hbb
  rw[Int.one_mul]at hrv
  have hg1:1≤g:=by
   refine Classical.byContradiction fun hx=>?_
   have:g=0:=by omega
   rw[this,Int.zero_mul]at hneg;omega
  obtain⟨c,r2,⟨K3,hr2⟩,c0,hr2l,dr2,hr2v⟩:=add_ev' r v (m+2) hn (by omega) dv hrl dr
  have s0:=val_nonneg (B:=18446744073709551616) (by decide) dr2
  have s1:=val_lt (B:=18446744073709551616) (by decide) dr2
  rw[hr2l]at s1
  rw[hVV]at hr2v
  have hc:c=1:=by
   have h3:c=0∨c=1∨2≤c:=by omega
   rcases h3 with h|h|h
   ·rw[h,Int.zero_mul]at hr2v;omega
   ·exact h
   have:=Int.mul_le_mul_of_nonneg_right h (Int.le_of_lt (pow_pos (B:=18446744073709551616) (by decide) (m+2+1)))
   omega
  rw[hc,Int.one_mul]at hr2v
  refine⟨g-1,r2,max K1 (max K2 K3),by omega,by omega,hr2l,dr2,by omega,by rw[bx2];omega,fun k hk q hq=>?_⟩
  have e3:whole_add.f k r v=some r2:=hr2 k (by omega)
  rw[head k q (by omega) (by omega) hq,if_pos (by decide),e3,Option.bind_some,u64_in (x:=g-1) (by omega)]
 have hbb:bb=0:=by
  have:bb=0∨bb=1:=by omega
  rcases this with h|h
  ·exact h
  rw[h,Int.one_mul]at hrv;omega
 subst hbb
 rw[Int.zero_mul]at hrv
 refine⟨g,r,max K1 K2,g0,g1,hrl,dr,by omega,by omega,fun k hk q hq=>?_⟩
 rw[head k q (by omega) (by omega) hq,if_neg (by decide)]
theorem val_take_of_lt {l:List Int} {n:Nat} (hd:Dig 18446744073709551616 l) (h:val 18446744073709551616 l<18446744073709551616^n):val 18446744073709551616 (l.take n)=val 18446744073709551616 l∧val 18446744073709551616 (l.drop n)=0:=by
 by_cases hn:n≤l.length
 ·have e:=val_split 18446744073709551616 l n hn
  have h1:=val_nonneg (B:=18446744073709551616) (by decide) (hd.take n)
  have h2:=val_nonneg (B:=18446744073709551616) (by decide) (hd.drop n)
  have h3:val 18446744073709551616 (l.drop n)=0:=by
   refine Classical.byContradiction fun hx=>?_
   have:=Int.mul_le_mul_of_nonneg_left (show 1≤val 18446744073709551616 (l.drop n) by omega) (Int.le_of_lt (pow_pos (B:=18446744073709551616) (by decide) n))
   omega
  rw[h3,Int.mul_zero]at e
  exact⟨by omega,h3⟩
 rw[List.take_of_length_le (by omega),List.drop_eq_nil_of_le (by omega)]
 exact⟨rfl,rfl⟩
theorem splice_drop (u S:List Int) (j:Nat) (h:j+S.length≤u.length):(splice u j S).drop j=S++u.drop (j+S.length)∧(splice u j S).length=u.length∧val 18446744073709551616 (splice u j S)=val 18446744073709551616 (u.take j)+18446744073709551616^j*(val 18446744073709551616 S+18446744073709551616^S.length*val 18446744073709551616 (u.drop (j+S.length))):=by
 have hl:(u.take j).length=j:=by rw[List.length_take];omega
 refine⟨?_,?_,?_⟩
 ·unfold splice
  rw[List.append_assoc,List.drop_left' hl]
 ·unfold splice
  simp
  omega
 unfold splice
 rw[List.append_assoc,val_append,val_append,hl]
theorem val_parts (u:List Int) (j n:Nat) (h:j+n≤u.length):val 18446744073709551616 u=val 18446744073709551616 (u.take j)+18446744073709551616^j*(val 18446744073709551616 ((u.drop j).take n)+18446744073709551616^n*val 18446744073709551616 (u.drop (j+n))):=by
 rw[val_split 18446744073709551616 u j (by omega),val_split 18446744073709551616 (u.drop j) n (by simp;omega),List.drop_drop]
theorem go_run (v:List Int) (n:Nat) (hn:v.length=n) (hn2:2≤n) (hl:n≤8388600) (dv:Dig 18446744073709551616 v) (hv1:9223372036854775808≤v.getD (n-1) 0):∀(m:Nat) (u q:List Int),m+n≤u.length→Dig 18446744073709551616 u→u.length≤8388608→val 18446744073709551616 (u.drop m)<val 18446744073709551616 v→Dig 18446744073709551616 q→m≤q.length→(∀t,t<m→q.getD t 0=0) →
  ∃u2 q2,Ev (fun k=>quo_go k u v q ((m:Int)-1)) (u2,q2)∧u2.length=u.length∧Dig 18446744073709551616 u2∧Dig 18446744073709551616 q2∧q2.length=q.length∧val 18446744073709551616 u2<val 18446744073709551616 v∧val 18446744073709551616 u2+val 18446744073709551616 q2*val 18446744073709551616 v=val 18446744073709551616 u+val 18446744073709551616 q*val 18446744073709551616 v:=by
 have hVl:=val_lt (B:=18446744073709551616) (by decide) dv
 rw[hn]at hVl
 intro m
 induction m with
 | zero=>
  intro u q hmu du hul hlt dq hmq hz
  refine⟨u,q,⟨1,fun k hk=>?_⟩,rfl,du,dq,rfl,hlt,rfl⟩
  obtain⟨k,rfl⟩:∃j,k=j+1:=⟨k-1,by omega⟩
  show quo_go (k+1) u v q (((0:Nat):Int)-1)=some (u,q)
  rw[quo_go,if_pos (by omega)]
 | succ m ih=>
  intro u q hmu du hul hlt dq hmq hz
  have hmu':m<u.length:=by omega
  have dm:=du.get m hmu'
  have dd:=du.drop (m+1)
  have hrest:=val_take_of_lt (n:=n) dd (by omega)
  have hseg:val 18446744073709551616 ((u.drop m).take (n+1))<val 18446744073709551616 v*18446744073709551616:=by
   rw[List.drop_eq_getElem_cons hmu',List.take_succ_cons]
   show u[m]+18446744073709551616*val 18446744073709551616 ((u.drop (m+1)).take n)<_
   rw[hrest.1]
   omega
  obtain⟨g,S,K,g0,g1,hSl,dS,hSV,hval,hstep⟩:=go_digit u v n m hn hn2 hl (by omega) du dv hv1 hseg hul
  have hz0:val 18446744073709551616 (u.drop (m+(n+1)))=0:=by
   have:=hrest.2
   rw[List.drop_drop,show m+1+n=m+(n+1) from by omega]at this
   exact this
  obtain⟨s1,s2,s3⟩:=splice_drop u S m (by omega)
  have p:=val_parts u m (n+1) (by omega)
  rw[hSl,hz0,Int.mul_zero,Int.add_zero]at s3
  rw[hz0,Int.mul_zero,Int.add_zero,hval]at p
  have dsp:Dig 18446744073709551616 (splice u m S):=Dig.append.2 ⟨Dig.append.2 ⟨du.take m,dS⟩,du.drop _⟩
  obtain⟨u2,q2,⟨J,hJ⟩,h1,h2,h3,h4,h5,h6⟩:=ih (splice u m S) (q.set m g) (by rw[s2];omega) dsp (by rw[s2];exact hul)
   (by rw[s1,val_append,hSl,hz0,Int.mul_zero,Int.add_zero];exact hSV) (dq.set m ⟨g0,g1⟩) (by simp;omega) (fun t ht=>by rw[getD_set_ne _ _ _ _ (by omega)];exact hz t (by omega))
  refine⟨u2,q2,⟨max K J+1,fun k hk=>?_⟩,h1.trans s2,h2,h3,by rw[h4];simp,h5,?_⟩
  ·obtain⟨k,rfl⟩:∃j,k=j+1:=⟨k-1,by omega⟩
   have e1:=hstep k (by omega) q (by omega)
   have e2:=hJ k (by omega)
   show quo_go (k+1) u v q (((m+1:Nat):Int)-1)=some (u2,q2)
   rw[show((m+1:Nat):Int)-1=(m:Int) from by omega,e1]
   exact e2
  rw[h6,s3,p,val_set_getD _ _ _ _ (by omega),hz m (by omega),Int.sub_zero,Int.add_mul]
  have e:g*18446744073709551616^m*val 18446744073709551616 v=18446744073709551616^m*(g*val 18446744073709551616 v):=by
   rw[Int.mul_comm g,Int.mul_assoc]
  rw[e,Int.mul_add]
  omega
theorem byLimb_l0 (a:List Int) (d:Int) (hd:0<d∧d<18446744073709551616) (hl:a.length≤8388608) (da:Dig 18446744073709551616 a):∀(n:Nat) (q:List Int) (r i:Int),n≤a.length→i=(n:Int)-1→q.length=a.length→Dig 18446744073709551616 q→(∀t,t<n→q.getD t 0=0)→0≤r∧r<d→val 18446744073709551616 q*d+r*18446744073709551616^n+val 18446744073709551616 (a.take n)=val 18446744073709551616 a →
  ∃q2 r2,Ev (fun k=>whole_amount_byLimb.l0 k a d q r i) (q2,r2)∧Rep 18446744073709551616 (val 18446744073709551616 a/d) q2∧r2=val 18446744073709551616 a%d:=by
 intro n
 induction n with
 | zero=>
  intro q r i hn hi hq dq hz hr hv
  obtain⟨q2,⟨K,hK⟩,h1,h2,h3⟩:=whole_trimmed_ev (B:=18446744073709551616) (l:=q) (by omega) dq
  have hv':val 18446744073709551616 q*d+r=val 18446744073709551616 a:=by
   rw[←hv];simp[val]
  have hdiv:val 18446744073709551616 a/d=val 18446744073709551616 q:=div_eq hd.1 (by omega) (by rw[Int.add_mul,Int.one_mul];omega)
  refine⟨q2,r,⟨K+1,fun k hk=>?_⟩,⟨h1,h2,by rw[h3,hdiv]⟩,?_⟩
  ·obtain⟨k,rfl⟩:∃j,k=j+1:=⟨k-1,by omega⟩
   have hk':whole_trimmed.f k q=some q2:=hK k (by omega)
   show whole_amount_byLimb.l0 (k+1) a d q r i=_
   rw[whole_amount_byLimb.l0,if_neg (by omega),hk',Option.bind_some]
  have h4:=Int.mul_ediv_add_emod (val 18446744073709551616 a) d
  rw[hdiv,Int.mul_comm]at h4
  omega
 | succ n ih=>
  intro q r i hn hi hq dq hz hr hv
  have hi':i=(n:Int):=by omega
  subst hi'
  have ga:=getD_dig (by decide) da n
  obtain⟨K,hK⟩:=Div64_ev (a0:=r) (a1:=a.getD n 0) (a2:=d) hr ga hd.2
  have h1:=Int.mul_ediv_add_emod (r*18446744073709551616+a.getD n 0) d
  have h2:=Int.emod_nonneg (r*18446744073709551616+a.getD n 0) (Int.ne_of_gt hd.1)
  have h3:=Int.emod_lt_of_pos (r*18446744073709551616+a.getD n 0) hd.1
  have h4:0≤(r*18446744073709551616+a.getD n 0)/d:=Int.ediv_nonneg (by omega) (by omega)
  have h5:(r*18446744073709551616+a.getD n 0)/d<18446744073709551616:=Int.ediv_lt_of_lt_mul hd.1 (by omega)
  generalize (r*18446744073709551616+a.getD n 0)/d=g at *
  generalize hr':(r*18446744073709551616+a.getD n 0)%d=r' at *
  clear hr'
  obtain⟨q2,r2,⟨J,hJ⟩,hq2⟩:=ih (q.set n g) r' ((n:Int)-1) (by omega) rfl (by simp[hq]) (dq.set n ⟨h4,h5⟩) (fun t ht=>by rw[getD_set_ne _ _ _ _ (by omega)];exact hz t (by omega)) ⟨h2,h3⟩ (by
   rw[←hv,val_set_getD _ _ _ _ (by omega),hz n (by omega),val_take_getD,Int.sub_zero,Int.pow_succ,Int.add_mul]
   generalize (18446744073709551616:Int)^n=W
   have e1:g*W*d=d*g*W:=by rw[Int.mul_comm (g*W),←Int.mul_assoc]
   have e2:r*(W*18446744073709551616)=r*18446744073709551616*W:=by rw[Int.mul_comm W,←Int.mul_assoc]
   have e3:(d*g+r')*W=(r*18446744073709551616+a.getD n 0)*W:=by rw[h1]
   rw[Int.add_mul,Int.add_mul]at e3
   rw[e1,e2]
   omega)
  refine⟨q2,r2,⟨K+J+1,fun k hk=>?_⟩,hq2⟩
  obtain⟨k,rfl⟩:∃j,k=j+1:=⟨k-1,by omega⟩
  have e1:bits_Div64.f k r (a.getD n 0) d=_:=hK k (by omega)
  have e2:=hJ k (by omega)
  show whole_amount_byLimb.l0 (k+1) a d q r (n:Int)=_
  rw[whole_amount_byLimb.l0,if_pos (by omega),if_pos (by omega),if_pos (by omega),rd_getD,e1,Option.bind_some,if_pos (by omega),Int.toNat_natCast,w64 _ (by omega)]
  exact e2
theorem byLimb_ev (a:List Int) (d:Int) (hd:0<d∧d<18446744073709551616) (hl:a.length≤8388608) (da:Dig 18446744073709551616 a) :
  ∃q2,Ev (fun k=>whole_amount_byLimb.f k a d) (q2,val 18446744073709551616 a%d)∧Rep 18446744073709551616 (val 18446744073709551616 a/d) q2:=by
 have hz:∀t,(List.replicate a.length (0:Int)).getD t 0=0:=fun t=>by
  simp[List.getD_eq_getElem?_getD,List.getElem?_replicate];split<;>rfl
 obtain⟨q2,r2,⟨K,hK⟩,h1,h2⟩:=byLimb_l0 a d hd hl da a.length (List.replicate a.length 0) 0 ((a.length:Int)-1) (Nat.le_refl _) rfl (by simp) (Dig.rep (by decide) _) (fun t _=>hz t) (by omega) (by rw[val_replicate,List.take_length];simp)
 subst h2
 refine⟨q2,⟨K,fun k hk=>?_⟩,h1⟩
 show whole_amount_byLimb.f k a d=_
 rw[whole_amount_byLimb.f,if_pos (by omega),Int.toNat_natCast,if_pos (by omega),w64 _ (by omega)]
 exact hK k hk
theorem down_or {s P Q:Int} (h:Sh s P Q) {o x:Int} (hx:0≤x∧x<18446744073709551616) (ho:0≤o∧o<Q):Go.bits .or .u64 o (x%P*Q)=o+x%P*Q:=by
 obtain⟨t,et,_⟩:=h.Q1
 obtain⟨_,_,_,e4,e5,_⟩:=shl_parts h.Q0 h.P0 (by rw[Int.mul_comm];exact h.PQ) hx
 have hQ:=h.Q_le
 rw[(or_add t ⟨e4,e5⟩ ⟨x%P,by rw[et]⟩ (by rw[←et];exact ho) (by omega)).2,Int.add_comm]
theorem down_out0 {s P Q:Int} (h:Sh s P Q) (h0:¬s>0) (x:Int):x%P=0:=by
 obtain⟨t,et,es⟩:=h.P1
 have hs:=h.s0
 have hP1:P=1:=by rw[et,←es,show s=0 from by omega];rfl
 rw[hP1];omega
def downSet (out:List Int) (i:Nat) (x P Q:Int):List Int:=if i=0 then out.set 0 (x/P) else(out.set i (x/P)).set (i-1) (out.getD (i-1) 0+x%P*Q)
theorem set_getD_same (l:List Int) (i:Nat):l.set i (l.getD i 0)=l:=by
 refine List.ext_getElem (by simp) fun j h1 h2=>?_
 by_cases hj:i=j
 ·subst hj
  rw[List.getElem_set_self,List.getD_eq_getElem?_getD,List.getElem?_eq_getElem h2,Option.getD_some]
 rw[List.getElem_set_ne hj]
theorem down_step (k:Nat) {s P Q:Int} (h:Sh s P Q) (a out:List Int) (i:Nat) (hi:i<a.length) (hl:a.length≤8388608) (ho:out.length=a.length) (da:Dig 18446744073709551616 a) (hz:out.getD i 0=0) (hw:0<i→0≤out.getD (i-1) 0∧out.getD (i-1) 0<Q) :
  whole_amount_down.l0 (k+1) s out a (a.length:Int) (i:Int)=whole_amount_down.l0 k s (downSet out i (a.getD i 0) P Q) a (a.length:Int) ((i+1:Nat):Int):=by
 have ga:=getD_dig (by decide) da i
 have hwr:=step_wrap i a.length hi hl
 have c1:(i:Int)<(a.length:Int):=by omega
 have c2:(0:Int)≤(i:Int):=by omega
 have c3:(i:Int)<(out.length:Int):=by omega
 have c4:=h.s0.1
 have c7:(0:Int)≤64-s:=by have:=h.s0;omega
 have hcount:=h.count
 have hR:=h.eqR (x:=a.getD i 0)
 have hL:=h.eqL' ga
 have hx:0≤a.getD i 0/P∧a.getD i 0/P<18446744073709551616:=by
  have h1:=Int.ediv_nonneg ga.1 (Int.le_of_lt h.P0)
  have h2:=Int.ediv_le_self P ga.1
  exact⟨h1,by omega⟩
 have hor0:=or_nil hx
 have ra:=rd_getD a i
 have ro:=rd_getD out i
 rw[hz]at ro
 by_cases hi0:i=0
 ·subst hi0
  rw[whole_amount_down.l0,if_pos c1,if_pos c2,if_pos c1,if_pos c3,if_pos c4,Option.bind_some,ra,ro,hR,hor0,hwr,Int.toNat_natCast,if_neg (show ¬((0:Nat):Int)>0 by decide),ite_self,downSet,if_pos rfl]
 have hpr:wrap64 ((i:Int)-1)=((i-1:Nat):Int):=by rw[w64 _ (by omega)];omega
 have rp:=rd_getD (out.set i (a.getD i 0/P)) (i-1)
 rw[getD_set_ne _ _ _ _ (by omega)]at rp
 have hor:=down_or h ga (hw (by omega))
 have c5:(0:Int)≤((i-1:Nat):Int):=by omega
 have c6:((i-1:Nat):Int)<(out.length:Int):=by omega
 have c8:(i:Int)>0:=by omega
 rw[whole_amount_down.l0,if_pos c1,if_pos c2,if_pos c1,if_pos c3,if_pos c4,Option.bind_some,ra,ro,hR,hor0,hwr,hpr,Int.toNat_natCast,Int.toNat_natCast,rp,downSet,if_neg hi0]
 by_cases h0:s>0
 ·rw[if_pos h0,if_pos c8,if_pos c5,if_pos c6,hcount,if_pos c7,hL,hor]
 rw[if_neg h0,down_out0 h h0,Int.zero_mul,Int.add_zero]
 have e:=set_getD_same (out.set i (a.getD i 0/P)) (i-1)
 rw[getD_set_ne _ _ _ _ (by omega)]at e
 rw[e]
theorem down_val {P Q A x V:Int} (hP:0<P) (hPQ:P*Q=18446744073709551616) (i:Nat) (hi:0<i) (hV:V=A/P) :
  V+(x/P)*18446744073709551616^i+(x%P*Q)*18446744073709551616^(i-1)=(A+x*18446744073709551616^i)/P:=by
 obtain⟨j,rfl⟩:∃j,i=j+1:=⟨i-1,by omega⟩
 rw[Nat.add_sub_cancel,Int.pow_succ]
 generalize (18446744073709551616:Int)^j=W
 rw[←hPQ,hV]
 have h1:=Int.mul_ediv_add_emod x P
 have e:A+x*(W*(P*Q))=A+(x*W*Q)*P:=by
  rw[Int.mul_comm P Q,←Int.mul_assoc W,←Int.mul_assoc x,←Int.mul_assoc x W Q]
 rw[e,Int.add_mul_ediv_right _ _ (Int.ne_of_gt hP)]
 have e2:x*W*Q=x/P*(W*(P*Q))+x%P*Q*W:=by
  have:x*W*Q=(P*(x/P)+x%P)*W*Q:=by rw[h1]
  rw[this,Int.add_mul,Int.add_mul]
  congr 1
  ·rw[Int.mul_comm P (x/P),Int.mul_assoc,Int.mul_assoc,←Int.mul_assoc P W Q,Int.mul_comm P W,Int.mul_assoc]
  rw[Int.mul_assoc,Int.mul_comm W Q,←Int.mul_assoc]
 rw[e2];omega
theorem down_l0 {s P Q:Int} (h:Sh s P Q) (a:List Int) (hl:a.length≤8388608) (da:Dig 18446744073709551616 a):∀(n i:Nat) (out:List Int),i+n=a.length→out.length=a.length→Dig 18446744073709551616 out→val 18446744073709551616 out=val 18446744073709551616 (a.take i)/P→(∀t,i≤t→out.getD t 0=0)→(0<i→out.getD (i-1) 0<Q) →
  ∃r,Ev (fun k=>whole_amount_down.l0 k s out a (a.length:Int) (i:Int)) r∧Rep 18446744073709551616 (val 18446744073709551616 a/P) r:=by
 intro n
 induction n with
 | zero=>
  intro i out hi ho hd hv hz hw
  obtain⟨r,⟨K,hr⟩,h1,h2,h3⟩:=whole_trimmed_ev (B:=18446744073709551616) (l:=out) (by omega) hd
  refine⟨r,⟨K+1,fun k hk=>?_⟩,h1,h2,by rw[h3,hv,show i=a.length from by omega,List.take_length]⟩
  obtain⟨k,rfl⟩:∃j,k=j+1:=⟨k-1,by omega⟩
  have hk':whole_trimmed.f k out=some r:=hr k (by omega)
  show whole_amount_down.l0 (k+1) s out a (a.length:Int) (i:Int)=some r
  rw[whole_amount_down.l0,if_neg (by omega),hk',Option.bind_some]
 | succ n ih=>
  intro i out hi ho hd hv hz hw
  have hil:i<a.length:=by omega
  have ga:=getD_dig (by decide) da i
  have hzi:=hz i (Nat.le_refl _)
  have hwi:0<i→0≤out.getD (i-1) 0∧out.getD (i-1) 0<Q:=fun x=>⟨(getD_dig (by decide) hd (i-1)).1,hw x⟩
  have hx1:=Int.ediv_nonneg ga.1 (Int.le_of_lt h.P0)
  have hx2:a.getD i 0/P<Q:=Int.ediv_lt_of_lt_mul h.P0 (by rw[Int.mul_comm,h.PQ];exact ga.2)
  have hQ:=h.Q_le
  obtain⟨_,_,_,e4,e5,_⟩:=shl_parts h.Q0 h.P0 (by rw[Int.mul_comm];exact h.PQ) ga
  have hm1:a.getD i 0%P+1≤P:=by have:=Int.emod_lt_of_pos (a.getD i 0) h.P0;omega
  have hm2:=Int.mul_le_mul_of_nonneg_right hm1 (Int.le_of_lt h.Q0)
  rw[h.PQ,Int.add_mul,Int.one_mul]at hm2
  obtain⟨r,⟨K,hr⟩,hq⟩:=ih (i+1) (downSet out i (a.getD i 0) P Q) (by omega) (by unfold downSet;split<;>simp[ho])
   (by unfold downSet;split
       ·exact hd.set 0 ⟨hx1,by omega⟩
       rename_i hi0
       have:=hwi (by omega)
       exact(hd.set i ⟨hx1,by omega⟩).set (i-1) ⟨by omega,by omega⟩)
   (by unfold downSet;split
       ·rename_i hi0;subst hi0
        rw[val_set_getD _ _ _ _ (by omega),hzi,hv,val_take_getD]
        simp[val]
       rename_i hi0
       rw[val_set_getD _ _ _ _ (by simp;omega),val_set_getD _ _ _ _ (by omega),getD_set_ne _ _ _ _ (by omega),hzi,val_take_getD,←down_val h.P0 h.PQ i (by omega) hv,Int.sub_zero,show out.getD (i-1) 0+a.getD i 0%P*Q-out.getD (i-1) 0=a.getD i 0%P*Q from by omega])
   (by intro t ht
       unfold downSet;split
       ·rw[getD_set_ne _ _ _ _ (by omega)];exact hz t (by omega)
       rw[getD_set_ne _ _ _ _ (by omega),getD_set_ne _ _ _ _ (by omega)];exact hz t (by omega))
   (by intro _
       rw[Nat.add_sub_cancel]
       unfold downSet;split
       ·rename_i hi0;subst hi0
        rw[getD_set_eq _ _ _ (by omega)];exact hx2
       rw[getD_set_ne _ _ _ _ (by omega),getD_set_eq _ _ _ (by omega)];exact hx2)
  refine⟨r,⟨K+1,fun k hk=>?_⟩,hq⟩
  obtain⟨k,rfl⟩:∃j,k=j+1:=⟨k-1,by omega⟩
  show whole_amount_down.l0 (k+1) s out a (a.length:Int) (i:Int)=some r
  rw[down_step k h a out i hil hl ho da hzi hwi]
  exact hr k (by omega)
theorem down_ev {s P Q:Int} (h:Sh s P Q) (a:List Int) (hl:a.length≤8388608) (da:Dig 18446744073709551616 a) :
  ∃r,Ev (fun k=>whole_amount_down.f k a s) r∧Rep 18446744073709551616 (val 18446744073709551616 a/P) r:=by
 have hz:∀t,(List.replicate a.length (0:Int)).getD t 0=0:=fun t=>by
  simp[List.getD_eq_getElem?_getD,List.getElem?_replicate];split<;>rfl
 obtain⟨r,⟨K,hr⟩,hq⟩:=down_l0 h a hl da a.length 0 (List.replicate a.length 0) (by omega) (by simp) (Dig.rep (by decide) _) (by rw[val_replicate];simp[val]) (fun t _=>hz t) (fun x=>absurd x (by decide))
 refine⟨r,⟨K,fun k hk=>?_⟩,hq⟩
 show whole_amount_down.f k a s=some r
 rw[whole_amount_down.f,if_pos (by omega),Int.toNat_natCast,if_pos (by omega)]
 exact hr k hk
theorem normal {b v:List Int} {n:Nat} {P:Int} (hn:b.length=n) (hn2:2≤n) (hv:v.length=n+1) (db:Dig 18446744073709551616 b) (dv:Dig 18446744073709551616 v) (hP:0<P) (hdvd:∃Q,P*Q=18446744073709551616) (h1:9223372036854775808≤b.getD (n-1) 0*P) (h2:b.getD (n-1) 0*P<18446744073709551616) (hval:val 18446744073709551616 v=val 18446744073709551616 b*P) :
  val 18446744073709551616 (v.take n)=val 18446744073709551616 b*P∧9223372036854775808≤(v.take n).getD (n-1) 0∧18446744073709551616^(n-1)*P≤val 18446744073709551616 b*P:=by
 obtain⟨m,rfl⟩:∃m,n=m+1:=⟨n-1,by omega⟩
 rw[Nat.add_sub_cancel]at *
 have eb:val 18446744073709551616 b=val 18446744073709551616 (b.take m)+b.getD m 0*18446744073709551616^m:=by
  have:=val_take_getD 18446744073709551616 b m
  rw[List.take_of_length_le (show b.length≤m+1 by omega)]at this
  exact this
 have b0:=val_nonneg (B:=18446744073709551616) (by decide) (db.take m)
 have b1:=val_lt (B:=18446744073709551616) (by decide) (db.take m)
 rw[List.length_take,Nat.min_eq_left (by omega)]at b1
 have hW:=pow_pos (B:=18446744073709551616) (by decide) m
 obtain⟨Q,hQ⟩:=hdvd
 have htop:(b.getD m 0+1)*P≤18446744073709551616:=by
  refine Classical.byContradiction fun hx=>?_
  have h3:b.getD m 0*P<Q*P:=by rw[Int.mul_comm Q P,hQ];exact h2
  have h4:b.getD m 0<Q:=Int.lt_of_mul_lt_mul_right h3 (Int.le_of_lt hP)
  have h5:=Int.mul_le_mul_of_nonneg_right (show b.getD m 0+1≤Q by omega) (Int.le_of_lt hP)
  rw[Int.mul_comm Q P,hQ]at h5
  omega
 have hb1:1≤b.getD m 0:=by
  refine Classical.byContradiction fun hx=>?_
  have:=Int.mul_le_mul_of_nonneg_right (show b.getD m 0≤0 by omega) (Int.le_of_lt hP)
  omega
 generalize b.getD m 0=t at *
 have hlow:18446744073709551616^m≤val 18446744073709551616 b:=by
  have:=Int.mul_le_mul_of_nonneg_right hb1 (Int.le_of_lt hW)
  omega
 have hup:val 18446744073709551616 b*P<18446744073709551616^(m+1):=by
  have h3:val 18446744073709551616 b<(t+1)*18446744073709551616^m:=by rw[Int.add_mul,Int.one_mul];omega
  have h4:=Int.mul_lt_mul_of_pos_right h3 hP
  have h5:=Int.mul_le_mul_of_nonneg_right htop (Int.le_of_lt hW)
  have e:(t+1)*18446744073709551616^m*P=(t+1)*P*18446744073709551616^m:=by
   rw[Int.mul_assoc,Int.mul_comm (18446744073709551616^m) P,←Int.mul_assoc]
  rw[Int.pow_succ,Int.mul_comm (18446744073709551616^m)]
  omega
 have hvt:=val_take_of_lt (n:=m+1) dv (by rw[hval];exact hup)
 refine⟨hvt.1.trans hval,?_,Int.mul_le_mul_of_nonneg_right hlow (Int.le_of_lt hP)⟩
 have dvt:=dv.take (m+1)
 have ev:val 18446744073709551616 (v.take (m+1))=val 18446744073709551616 ((v.take (m+1)).take m)+(v.take (m+1)).getD m 0*18446744073709551616^m:=by
  have:=val_take_getD 18446744073709551616 (v.take (m+1)) m
  rw[List.take_of_length_le (show(v.take (m+1)).length≤m+1 by simp;omega)]at this
  exact this
 have v1:=val_lt (B:=18446744073709551616) (by decide) (dvt.take m)
 rw[List.length_take,Nat.min_eq_left (by simp;omega)]at v1
 rw[hvt.1,hval]at ev
 generalize (v.take (m+1)).getD m 0=x at *
 refine Classical.byContradiction fun hx=>?_
 have h6:=Int.mul_le_mul_of_nonneg_right (show x+1≤9223372036854775808 by omega) (Int.le_of_lt hW)
 rw[Int.add_mul,Int.one_mul]at h6
 have h7:t*18446744073709551616^m≤val 18446744073709551616 b:=by omega
 have h8:=Int.mul_le_mul_of_nonneg_right h7 (Int.le_of_lt hP)
 have h9:=Int.mul_le_mul_of_nonneg_right h1 (Int.le_of_lt hW)
 have e:t*18446744073709551616^m*P=t*P*18446744073709551616^m:=by
  rw[Int.mul_assoc,Int.mul_comm (18446744073709551616^m) P,←Int.mul_assoc]
 omega
theorem rep_word {v:Int} (h:0≤v∧v<18446744073709551616):∃r,Ev (fun k=>whole_trimmed.f k [v]) r∧Rep 18446744073709551616 v r:=by
 obtain⟨r,hr,h1,h2,h3⟩:=whole_trimmed_ev (B:=18446744073709551616) (l:=[v]) (by simp) (by rw[Dig.cons];exact⟨h,Dig.nil⟩)
 exact⟨r,hr,h1,h2,by rw[h3];simp[val]⟩
theorem quo_ev {A D:Int} {a b:List Int} (ha:Rep 18446744073709551616 A a) (hb:Rep 18446744073709551616 D b) (hD:0<D) (la:a.length≤8388600) (lb:b.length≤8388600) :
  ∃q r,Ev (fun k=>whole_amount_quo.f k a b) (q,r)∧Rep 18446744073709551616 (A/D) q∧Rep 18446744073709551616 (A%D) r:=by
 have hA:=ha.nonneg (by decide)
 obtain⟨K1,h1⟩:=whole_amount_cmp_ev a b (by omega) (by omega) ha.dig hb.dig ha.top hb.top
 rw[ha.val,hb.val]at h1
 by_cases hc:A<D
 ·refine⟨[],a,⟨K1,fun k hk=>?_⟩,⟨Dig.nil,trivial,?_⟩,?_⟩
  ·have e1:whole_amount_cmp.f k a b=_:=h1 k hk
   show whole_amount_quo.f k a b=_
   rw[whole_amount_quo.f,e1,Option.bind_some,sg_neg (by omega),if_pos (by decide)]
  ·rw[Int.ediv_eq_zero_of_lt hA hc];rfl
  rw[Int.emod_eq_of_lt hA hc];exact ha
 have hsg:¬sg (A-D)<0:=by unfold sg;split<;>(try split)<;>omega
 have hbpos:=(hb.pos_iff (by decide)).2 hD
 by_cases h1b:b.length=1
 ·obtain⟨x,rfl⟩:=List.length_eq_one_iff.1 h1b
  have hx:x=D:=by have:=hb.val;simpa [val] using this
  have dx:=hb.dig.get 0 (by simp)
  have dx':0≤x∧x<18446744073709551616:=dx
  obtain⟨q,⟨K2,h2⟩,hq⟩:=byLimb_ev a x (by omega) (by omega) ha.dig
  rw[ha.val,hx]at hq
  have hm0:=Int.emod_nonneg A (show x≠0 by omega)
  have hm1:=Int.emod_lt_of_pos A (show 0<x by omega)
  obtain⟨r,⟨K3,h3⟩,hr⟩:=rep_word (v:=A%x) ⟨hm0,by omega⟩
  rw[hx]at hr
  refine⟨q,r,⟨K1+K2+K3,fun k hk=>?_⟩,hq,hr⟩
  have e1:whole_amount_cmp.f k a [x]=_:=h1 k (by omega)
  have e2:whole_amount_byLimb.f k a x=_:=h2 k (by omega)
  have e3:whole_trimmed.f k [A%x]=_:=h3 k (by omega)
  rw[ha.val]at e2
  show whole_amount_quo.f k a [x]=_
  rw[whole_amount_quo.f,e1,Option.bind_some,if_neg hsg,if_pos (by rfl),show rd [x] 0=x from rfl,e2,Option.bind_some,e3,Option.bind_some]
 have hlen:=len_of_le (by decide) ha.dig hb.dig hb.top (by rw[ha.val,hb.val];omega)
 have hn2:2≤b.length:=by omega
 have gb:=getD_dig (by decide) hb.dig (b.length-1)
 have htop:b.getD (b.length-1) 0≠0:=by
  have hne:b≠[]:=by intro e;rw[e]at hn2;simp at hn2
  have:=(Top_iff b).1 hb.top hne
  rw[List.getLast_eq_getElem]at this
  rw[List.getD_eq_getElem?_getD,List.getElem?_eq_getElem (by omega),Option.getD_some]
  exact this
 obtain⟨s,P,Q,hs,hSh,hp1,hp2⟩:=clz (x:=b.getD (b.length-1) 0) (by omega)
 have hP0:=hSh.P0
 obtain⟨v,⟨K2,h2⟩,hvl,dv,hvv⟩:=up_ev hSh b lb hb.dig
 obtain⟨u,⟨K3,h3⟩,hul,du,huv⟩:=up_ev hSh a la ha.dig
 obtain⟨n1,n2,n3⟩:=normal rfl hn2 hvl hb.dig dv hP0 ⟨Q,hSh.PQ⟩ hp1 hp2 hvv
 rw[hb.val]at n1 n3
 rw[ha.val]at huv
 have hvtl:(v.take b.length).length=b.length:=by rw[List.length_take];omega
 have hAl:=ha.lt (by decide)
 have htopu:val 18446744073709551616 (u.drop (a.length-b.length+1))<val 18446744073709551616 (v.take b.length):=by
  rw[n1]
  have e:=val_split 18446744073709551616 u (a.length-b.length+1) (by omega)
  have t0:=val_nonneg (B:=18446744073709551616) (by decide) (du.take (a.length-b.length+1))
  have hW:=pow_pos (B:=18446744073709551616) (by decide) (a.length-b.length+1)
  refine Classical.byContradiction fun hx=>?_
  have h5:=Int.mul_le_mul_of_nonneg_left (show 18446744073709551616^(b.length-1)*P≤val 18446744073709551616 (u.drop (a.length-b.length+1)) by omega) (Int.le_of_lt hW)
  rw[←Int.mul_assoc,←Int.pow_add,show a.length-b.length+1+(b.length-1)=a.length from by omega]at h5
  have h6:=Int.mul_lt_mul_of_pos_right hAl hP0
  omega
 have hq0:∀t,(List.replicate (a.length-b.length+1) (0:Int)).getD t 0=0:=fun t=>by
  simp[List.getD_eq_getElem?_getD,List.getElem?_replicate];split<;>rfl
 obtain⟨u2,q2,⟨K4,h4⟩,w1,w2,w3,w4,w5,w6⟩:=go_run (v.take b.length) b.length hvtl hn2 lb (dv.take _) n2 (a.length-b.length+1) u (List.replicate (a.length-b.length+1) 0) (by omega) du (by omega) htopu (Dig.rep (by decide) _) (by simp) (fun t _=>hq0 t)
 rw[val_replicate,Int.zero_mul,Int.add_zero,huv,n1]at w6
 rw[n1]at w5
 have hu0:=val_nonneg (B:=18446744073709551616) (by decide) w2
 obtain⟨d1,d2⟩:=scale_div (X:=A) (a:=D) (P:=P) (G:=val 18446744073709551616 q2) (r:=val 18446744073709551616 u2) hP0 hD (by omega) hu0 w5
 obtain⟨q,⟨K5,h5⟩,q1,q3,q4⟩:=whole_trimmed_ev (B:=18446744073709551616) (l:=q2) (by rw[w4];simp;omega) w3
 have hvlt:=val_lt (B:=18446744073709551616) (by decide) (dv.take b.length)
 rw[hvtl,n1]at hvlt
 have hut:=val_take_of_lt (n:=b.length) w2 (by omega)
 obtain⟨r0,⟨K6,h6⟩,r1,r3,r4⟩:=whole_trimmed_ev (B:=18446744073709551616) (l:=u2.take b.length) (by rw[List.length_take];omega) (w2.take _)
 have hr0l:r0.length≤8388608:=by
  have:=rep_len (by decide) (Rep.mk r1 r3 (r4.trans hut.1)) (m:=b.length) (by omega)
  omega
 obtain⟨r,⟨K7,h7⟩,hr⟩:=down_ev hSh r0 hr0l r1
 rw[r4,hut.1,←d2]at hr
 refine⟨q,r,⟨K1+K2+K3+K4+K5+K6+K7,fun k hk=>?_⟩,⟨q1,q3,by rw[q4,d1]⟩,hr⟩
 have e1:whole_amount_cmp.f k a b=_:=h1 k (by omega)
 have e2:whole_amount_up.f k b s=_:=h2 k (by omega)
 have e3:whole_amount_up.f k a s=_:=h3 k (by omega)
 have e4:quo_go k u (v.take b.length) (List.replicate (a.length-b.length+1) 0) (((a.length-b.length+1:Nat):Int)-1)=_:=h4 k (by omega)
 have e5:whole_trimmed.f k q2=_:=h5 k (by omega)
 have e6:whole_trimmed.f k (u2.take b.length)=_:=h6 k (by omega)
 have e7:whole_amount_down.f k r0 s=_:=h7 k (by omega)
 have hs0:=hSh.s0
 have i1:(a.length:Int)-(b.length:Int)=((a.length-b.length+1:Nat):Int)-1:=by omega
 have i2:(b.length:Int)-1=((b.length-1:Nat):Int):=by omega
 show whole_amount_quo.f k a b=_
 rw[whole_amount_quo.f,e1,Option.bind_some,if_neg hsg,if_neg h1b,if_pos (by omega),i2,rd_getD,hs,Option.bind_some,if_pos (by omega),e2,Option.bind_some,e3,Option.bind_some,if_pos (by omega),i1,e4,Option.bind_some,e5,Option.bind_some,e6,Option.bind_some,e7,Option.bind_some]
theorem mul_step (V c c' s x n X P B:Int) (hs:c'*B+s=x*n+c) (hv:V+c*P=X*n):(V+s*P)+c'*(P*B)=(X+x*P)*n:=by
 have h1:c'*(P*B)+s*P=(c'*B+s)*P:=by rw[Int.add_mul,Int.mul_assoc,Int.mul_comm P B]
 have h2:x*P*n=x*n*P:=by rw[Int.mul_assoc,Int.mul_comm P n,←Int.mul_assoc]
 rw[hs,Int.add_mul]at h1
 rw[Int.add_mul,h2]
 omega
theorem timesD_step (k:Nat) (a out:List Int) (n c t:Int) (i:Nat) (hi:i<a.length) (hl:a.length≤8388608) (ho:out.length=i) (ht:(c+a.getD i 0%4294967296*n)%4294967296=t) :
  tribunalref02_timesD.l0 (k+1) a n out c (i:Int)=tribunalref02_timesD.l0 k a n (out++[t%65536]) (t/65536) ((i+1:Nat):Int):=by
 have hwr:=step_wrap i a.length hi hl
 rw[tribunalref02_timesD.l0,if_pos (by omega),if_pos (by omega),if_pos (by omega),rd_getD,ht,hwr,IntKind.wrap_u16]
theorem timesD_l0 (a:List Int) (n:Int) (hn:0≤n∧n<65536) (hl:a.length≤8388608) (da:Dig 65536 a):∀(m i:Nat) (out:List Int) (c:Int),i+m=a.length→out.length=i→Dig 65536 out→0≤c∧c<65536→val 65536 out+c*65536^i=val 65536 (a.take i)*n →
  ∃r,Ev (fun k=>tribunalref02_timesD.l0 k a n out c (i:Int)) r∧Rep 65536 (val 65536 a*n) r:=by
 intro m
 induction m with
 | zero=>
  intro i out c hi ho hd hc hv
  obtain⟨r,⟨K,hr⟩,h1,h2,h3⟩:=tribunalref02_trim_ev (B:=65536) (l:=out++[c]) (by simp;omega) (Dig.append.2 ⟨hd,by rw[Dig.cons];exact⟨hc,Dig.nil⟩⟩)
  refine⟨r,⟨K+1,fun k hk=>?_⟩,h1,h2,?_⟩
  ·obtain⟨k,rfl⟩:∃j,k=j+1:=⟨k-1,by omega⟩
   have hk':tribunalref02_trim.f k (out++[c])=some r:=hr k (by omega)
   have hw:IntKind.u16.wrap c=c:=by rw[IntKind.wrap_u16];omega
   show tribunalref02_timesD.l0 (k+1) a n out c (i:Int)=some r
   rw[tribunalref02_timesD.l0,if_neg (by omega),if_pos (by omega),hw,hk',Option.bind_some]
  rw[h3,val_snoc,ho,hv,show i=a.length from by omega,List.take_length]
 | succ m ih=>
  intro i out c hi ho hd hc hv
  have hil:i<a.length:=by omega
  have ga:=getD_dig (by decide) da i
  have hb:=mul_bound (M:=65535) (x:=a.getD i 0) (y:=n) (by omega) (by omega)
  have ht:(c+a.getD i 0%4294967296*n)%4294967296=a.getD i 0*n+c:=by
   rw[Int.emod_eq_of_lt ga.1 (by omega)]
   generalize a.getD i 0*n=p at *
   omega
  obtain⟨r,⟨K,hr⟩,hq⟩:=ih (i+1) (out++[(a.getD i 0*n+c)%65536]) ((a.getD i 0*n+c)/65536) (by omega) (by simp;omega)
   (Dig.append.2 ⟨hd,by rw[Dig.cons];exact⟨by omega,Dig.nil⟩⟩) (by generalize a.getD i 0*n=p at *;omega)
   (by rw[val_snoc,ho,val_take_getD,Int.pow_succ];exact mul_step _ c _ _ _ _ _ _ _ (by omega) hv)
  refine⟨r,⟨K+1,fun k hk=>?_⟩,hq⟩
  obtain⟨k,rfl⟩:∃j,k=j+1:=⟨k-1,by omega⟩
  show tribunalref02_timesD.l0 (k+1) a n out c (i:Int)=some r
  rw[timesD_step k a out n c _ i hil hl ho ht]
  exact hr k (by omega)
theorem timesD_ev (a:List Int) (n:Int) (hn:0≤n∧n<65536) (hl:a.length≤8388608) (da:Dig 65536 a) :
  ∃r,Ev (fun k=>tribunalref02_timesD.f k a n) r∧Rep 65536 (val 65536 a*n) r:=by
 obtain⟨r,⟨K,hr⟩,hq⟩:=timesD_l0 a n hn hl da a.length 0 [] 0 (by omega) rfl Dig.nil (by omega) (by simp[val])
 refine⟨r,⟨K,fun k hk=>?_⟩,hq⟩
 show tribunalref02_timesD.f k a n=some r
 rw[tribunalref02_timesD.f]
 exact hr k hk
theorem times_len {A n:Int} {r:List Int} {L:Nat} (h:Rep 65536 (A*n) r) (hA:0≤A∧A<65536^L) (hn:0≤n∧n<65536):r.length≤L+1:=by
 refine rep_len (by decide) h ?_
 rw[Int.pow_succ]
 have h1:=Int.mul_le_mul_of_nonneg_left (show n≤65535 by omega) hA.1
 omega
theorem sg_le {n:Int}:sg n≤0↔n≤0:=by unfold sg;split<;>(try split)<;>omega
theorem digit_l0 {A D:Int} {a b:List Int} (ha:Rep 65536 A a) (hb:Rep 65536 D b) (hD:0<D) (la:a.length≤8388600) (lb:b.length≤8388600):∀(m:Nat) (lo hi:Int),(hi-lo).toNat≤m→0≤lo→lo≤hi→hi≤65535→D*lo≤A→A<D*(hi+1) →
  ∃r,Ev (fun k=>tribunalref02_digit.l0 k a b lo hi) (A/D,r)∧Rep 65536 (A%D) r:=by
 have hDl:=hb.lt (by decide)
 have hA:=ha.nonneg (by decide)
 intro m
 induction m with
 | zero=>
  intro lo hi hm h0 h1 h2 h3 h4
  have hlh:lo=hi:=by omega
  subst hlh
  obtain⟨t,⟨K1,e1⟩,ht⟩:=timesD_ev b lo (by omega) (by omega) hb.dig
  rw[hb.val]at ht
  have hlt:=times_len ht ⟨Int.le_of_lt hD,hDl⟩ (by omega)
  have hlen:=len_of_le (by decide) ha.dig ht.dig ht.top (by rw[ha.val,ht.val];exact h3)
  obtain⟨r,⟨K2,e2⟩,hr⟩:=subD_ev a t (by omega) hlen (by rw[ha.val,ht.val];exact h3) ha.dig ht.dig
  rw[ha.val,ht.val]at hr
  have hdiv:A/D=lo:=div_eq hD (by rw[Int.mul_comm];exact h3) (by rw[Int.mul_comm];exact h4)
  have hmod:A%D=A-D*lo:=by
   have:=Int.mul_ediv_add_emod A D
   rw[hdiv]at this;omega
  refine⟨r,⟨K1+K2+1,fun k hk=>?_⟩,by rw[hmod];exact hr⟩
  obtain⟨k,rfl⟩:∃j,k=j+1:=⟨k-1,by omega⟩
  have g1:tribunalref02_timesD.f k b lo=_:=e1 k (by omega)
  have g2:tribunalref02_subD.f k a t=_:=e2 k (by omega)
  have hw:IntKind.u16.wrap lo=lo:=by rw[IntKind.wrap_u16];omega
  show tribunalref02_digit.l0 (k+1) a b lo lo=_
  rw[tribunalref02_digit.l0,if_neg (by omega),g1,Option.bind_some,g2,Option.bind_some,hw,hdiv]
 | succ m ih=>
  intro lo hi hm h0 h1 h2 h3 h4
  by_cases hlt:lo<hi
  ·have hmid:(lo+hi+1)%4294967296/2=(lo+hi+1)/2:=by omega
   have m1:lo<(lo+hi+1)/2:=by omega
   have m2:(lo+hi+1)/2≤hi:=by omega
   generalize hmd:(lo+hi+1)/2=mid at *
   have hm1:(mid-1)%4294967296=mid-1:=by omega
   obtain⟨t,⟨K1,e1⟩,ht⟩:=timesD_ev b mid (by omega) (by omega) hb.dig
   rw[hb.val]at ht
   have htl:=times_len ht ⟨Int.le_of_lt hD,hDl⟩ (by omega)
   obtain⟨K2,e2⟩:=tribunalref02_cmpD_ev t a (by omega) (by omega) ht.dig ha.dig ht.top ha.top
   rw[ht.val,ha.val]at e2
   by_cases hc:D*mid≤A
   ·obtain⟨r,⟨K3,e3⟩,hr⟩:=ih mid hi (by omega) (by omega) m2 h2 hc h4
    refine⟨r,⟨K1+K2+K3+1,fun k hk=>?_⟩,hr⟩
    obtain⟨k,rfl⟩:∃j,k=j+1:=⟨k-1,by omega⟩
    have g1:tribunalref02_timesD.f k b mid=_:=e1 k (by omega)
    have g2:tribunalref02_cmpD.f k t a=_:=e2 k (by omega)
    show tribunalref02_digit.l0 (k+1) a b lo hi=_
    rw[tribunalref02_digit.l0,if_pos hlt,hmid,g1,Option.bind_some,g2,Option.bind_some,if_pos (sg_le.2 (by omega))]
    exact e3 k (by omega)
   obtain⟨r,⟨K3,e3⟩,hr⟩:=ih lo (mid-1) (by omega) h0 (by omega) (by omega) h3 (by rw[show mid-1+1=mid from by omega];omega)
   refine⟨r,⟨K1+K2+K3+1,fun k hk=>?_⟩,hr⟩
   obtain⟨k,rfl⟩:∃j,k=j+1:=⟨k-1,by omega⟩
   have g1:tribunalref02_timesD.f k b mid=_:=e1 k (by omega)
   have g2:tribunalref02_cmpD.f k t a=_:=e2 k (by omega)
   show tribunalref02_digit.l0 (k+1) a b lo hi=_
   rw[tribunalref02_digit.l0,if_pos hlt,hmid,g1,Option.bind_some,g2,Option.bind_some,if_neg (fun x=>hc (by have:=sg_le.1 x;omega)),hm1]
   exact e3 k (by omega)
  exact ih lo hi (by omega) h0 h1 h2 h3 h4
theorem digit_ev {A D:Int} {a b:List Int} (ha:Rep 65536 A a) (hb:Rep 65536 D b) (hD:0<D) (la:a.length≤8388600) (lb:b.length≤8388600) (hlt:A<D*65536) :
  ∃r,Ev (fun k=>tribunalref02_digit.f k a b) (A/D,r)∧Rep 65536 (A%D) r:=by
 have hA:=ha.nonneg (by decide)
 obtain⟨r,⟨K,hr⟩,hq⟩:=digit_l0 ha hb hD la lb 65535 0 65535 (by omega) (by omega) (by omega) (by omega) (by omega) (by omega)
 refine⟨r,⟨K,fun k hk=>?_⟩,hq⟩
 show tribunalref02_digit.f k a b=_
 rw[tribunalref02_digit.f]
 exact hr k hk
theorem divD_l0 {D:Int} {b:List Int} (a:List Int) (hb:Rep 65536 D b) (hD:0<D) (hl:a.length≤8388608) (lb:b.length≤8388590) (da:Dig 65536 a):∀(n:Nat) (q r:List Int) (R i:Int),n≤a.length→i=(n:Int)-1→q.length=a.length→Dig 65536 q→(∀t,t<n→q.getD t 0=0)→Rep 65536 R r→R<D→val 65536 q*D+R*65536^n+val 65536 (a.take n)=val 65536 a →
  ∃q2 r2,Ev (fun k=>tribunalref02_divD.l0 k a b q r i) (q2,r2)∧Rep 65536 (val 65536 a/D) q2∧Rep 65536 (val 65536 a%D) r2:=by
 have hDl:=hb.lt (by decide)
 intro n
 induction n with
 | zero=>
  intro q r R i hn hi hq dq hz hr hR hv
  have hR0:=hr.nonneg (by decide)
  obtain⟨q2,⟨K,hK⟩,h1,h2,h3⟩:=tribunalref02_trim_ev (B:=65536) (l:=q) (by omega) dq
  have hv':val 65536 q*D+R=val 65536 a:=by rw[←hv];simp[val]
  have hdiv:val 65536 a/D=val 65536 q:=div_eq hD (by omega) (by rw[Int.add_mul,Int.one_mul];omega)
  have hmod:val 65536 a%D=R:=by
   have h4:=Int.mul_ediv_add_emod (val 65536 a) D
   rw[hdiv,Int.mul_comm]at h4
   omega
  refine⟨q2,r,⟨K+1,fun k hk=>?_⟩,⟨h1,h2,by rw[h3,hdiv]⟩,by rw[hmod];exact hr⟩
  obtain⟨k,rfl⟩:∃j,k=j+1:=⟨k-1,by omega⟩
  have hk':tribunalref02_trim.f k q=some q2:=hK k (by omega)
  show tribunalref02_divD.l0 (k+1) a b q r i=_
  rw[tribunalref02_divD.l0,if_neg (by omega),hk',Option.bind_some]
 | succ n ih=>
  intro q r R i hn hi hq dq hz hr hR hv
  have hR0:=hr.nonneg (by decide)
  have hi':i=(n:Int):=by omega
  subst hi'
  have ga:=getD_dig (by decide) da n
  have hrl:r.length≤b.length:=rep_len (by decide) hr (by omega)
  have dr:Dig 65536 (a.getD n 0::r):=Dig.cons.2 ⟨ga,hr.dig⟩
  obtain⟨t,⟨K1,e1⟩,h1,h2,h3⟩:=tribunalref02_trim_ev (B:=65536) (l:=a.getD n 0::r) (by simp;omega) dr
  have ht:Rep 65536 (a.getD n 0+65536*R) t:=⟨h1,h2,by rw[h3];show a.getD n 0+65536*val 65536 r=_;rw[hr.val]⟩
  have htl:t.length≤b.length+1:=rep_len (by decide) ht (by rw[Int.pow_succ];omega)
  obtain⟨r',⟨K2,e2⟩,hr'⟩:=digit_ev ht hb hD (by omega) (by omega) (by omega)
  have g1:=Int.mul_ediv_add_emod (a.getD n 0+65536*R) D
  have g2:=Int.emod_nonneg (a.getD n 0+65536*R) (Int.ne_of_gt hD)
  have g3:=Int.emod_lt_of_pos (a.getD n 0+65536*R) hD
  have g4:0≤(a.getD n 0+65536*R)/D:=Int.ediv_nonneg (by omega) (by omega)
  have g5:(a.getD n 0+65536*R)/D<65536:=Int.ediv_lt_of_lt_mul hD (by omega)
  generalize (a.getD n 0+65536*R)/D=g at *
  generalize hR':(a.getD n 0+65536*R)%D=R' at *
  clear hR'
  obtain⟨q2,r2,⟨K3,e3⟩,hq2⟩:=ih (q.set n g) r' R' ((n:Int)-1) (by omega) rfl (by simp[hq]) (dq.set n ⟨g4,g5⟩) (fun t ht=>by rw[getD_set_ne _ _ _ _ (by omega)];exact hz t (by omega)) hr' g3 (by
   rw[←hv,val_set_getD _ _ _ _ (by omega),hz n (by omega),val_take_getD,Int.sub_zero,Int.pow_succ,Int.add_mul]
   generalize (65536:Int)^n=W
   have x1:g*W*D=D*g*W:=by rw[Int.mul_comm (g*W),←Int.mul_assoc]
   have x2:R*(W*65536)=65536*R*W:=by rw[Int.mul_comm W,←Int.mul_assoc,Int.mul_comm R]
   have x3:(D*g+R')*W=(a.getD n 0+65536*R)*W:=by rw[g1]
   rw[Int.add_mul,Int.add_mul]at x3
   rw[x1,x2]
   omega)
  refine⟨q2,r2,⟨K1+K2+K3+1,fun k hk=>?_⟩,hq2⟩
  obtain⟨k,rfl⟩:∃j,k=j+1:=⟨k-1,by omega⟩
  have f1:tribunalref02_trim.f k ([a.getD n 0]++r)=some t:=e1 k (by omega)
  have f2:tribunalref02_digit.f k t b=_:=e2 k (by omega)
  have f3:=e3 k (by omega)
  show tribunalref02_divD.l0 (k+1) a b q r (n:Int)=_
  rw[tribunalref02_divD.l0,if_pos (by omega),if_pos (by omega),if_pos (by omega),Option.bind_some,rd_getD,if_pos (by simp;omega),f1,Option.bind_some,f2,Option.bind_some,if_pos (by omega),Int.toNat_natCast,w64 _ (by omega)]
  exact f3
theorem divD_ev {A D:Int} {a b:List Int} (ha:Rep 65536 A a) (hb:Rep 65536 D b) (hD:0<D) (la:a.length≤8388608) (lb:b.length≤8388590) :
  ∃q r,Ev (fun k=>tribunalref02_divD.f k a b) (q,r)∧Rep 65536 (A/D) q∧Rep 65536 (A%D) r:=by
 have hz:∀t,(List.replicate a.length (0:Int)).getD t 0=0:=fun t=>by
  simp[List.getD_eq_getElem?_getD,List.getElem?_replicate];split<;>rfl
 obtain⟨q2,r2,⟨K,hK⟩,h1,h2⟩:=divD_l0 a hb hD la lb ha.dig a.length (List.replicate a.length 0) [] 0 ((a.length:Int)-1) (Nat.le_refl _) rfl (by simp) (Dig.rep (by decide) _) (fun t _=>hz t) ⟨Dig.nil,trivial,rfl⟩ hD (by rw[val_replicate,List.take_length];simp)
 rw[ha.val]at h1 h2
 refine⟨q2,r2,⟨K,fun k hk=>?_⟩,h1,h2⟩
 show tribunalref02_divD.f k a b=_
 rw[tribunalref02_divD.f,if_pos (by omega),Int.toNat_natCast,if_pos (by omega),w64 _ (by omega)]
 exact hK k hk
def qn (n m:Int):Int:=if(decide (n<0) != decide (m<0))=true then -((n.natAbs:Int)/(m.natAbs:Int)) else(n.natAbs:Int)/(m.natAbs:Int)
def rn (n m:Int):Int:=if decide (n<0)=true then -((n.natAbs:Int)%(m.natAbs:Int)) else(n.natAbs:Int)%(m.natAbs:Int)
theorem cut_num {n m:Int} {s t:Bool} {a b:List Int} (ha:Num 18446744073709551616 n s a) (hb:Num 18446744073709551616 m t b) (hm:m≠0) (la:a.length≤8388600) (lb:b.length≤8388600) :
  ∃u q v r,Ev (fun k=>whole_number_cut.f k a s b t) (q,u,r,v)∧Num 18446744073709551616 (qn n m) u q∧Num 18446744073709551616 (rn n m) v r:=by
 obtain⟨q,r,⟨K,hK⟩,hq,hr⟩:=quo_ev ha.rep hb.rep (by omega) la lb
 refine⟨_,q,_,r,⟨K,fun k hk=>?_⟩,Num.of_rep' (by decide) hq (s != t) (by rw[ha.sign,hb.sign];rfl),Num.of_rep' (by decide) hr s (by rw[ha.sign];rfl)⟩
 have e:whole_amount_quo.f k a b=_:=hK k hk
 show whole_number_cut.f k a s b t=_
 rw[whole_number_cut.f,e,Option.bind_some,signed_eq,Option.bind_some,signed_eq,Option.bind_some]
theorem rMake_rep {v:Int} {l:List Int} (h:Rep 65536 v l) (hl:l.length≤8388608) (b:Bool) {n:Int} (hn:n=if b then -v else v):∃u r,Ev (fun k=>tribunalref02_Make.f k b l) (u,r)∧Num 65536 n u r:=by
 obtain⟨r,hE,h1,h2,h3⟩:=Make_ev b l (by omega) h.dig
 exact⟨_,r,hE,Num.of_rep' (by decide) ⟨h1,h2,h3.trans h.val⟩ b hn⟩
theorem div_small {A D:Int} {L:Nat} (hA:0≤A∧A<65536^L) (hD:0<D):A/D<65536^L∧A%D<65536^L:=by
 have h1:=Int.ediv_le_self D hA.1
 have h2:=Int.mul_ediv_add_emod A D
 have h3:0≤A/D:=Int.ediv_nonneg hA.1 (Int.le_of_lt hD)
 have h4:=Int.mul_nonneg (Int.le_of_lt hD) h3
 exact⟨by omega,by omega⟩
theorem Cut_num {n m:Int} {s t:Bool} {a b:List Int} (ha:Num 65536 n s a) (hb:Num 65536 m t b) (hm:m≠0) (la:a.length≤8388590) (lb:b.length≤8388590) :
  ∃u q v r,Ev (fun k=>tribunalref02_Cut.f k s a t b) (u,q,v,r)∧Num 65536 (qn n m) u q∧Num 65536 (rn n m) v r∧q.length≤a.length∧r.length≤a.length:=by
 obtain⟨q0,r0,⟨K1,h1⟩,hq,hr⟩:=divD_ev ha.rep hb.rep (by omega) (by omega) lb
 have hA0:=ha.rep.nonneg (by decide)
 have hA1:=ha.rep.lt (by decide)
 obtain⟨d1,d2⟩:=div_small (D:=(m.natAbs:Int)) ⟨hA0,hA1⟩ (by omega)
 have lq:=rep_len (by decide) hq d1
 have lr:=rep_len (by decide) hr d2
 obtain⟨u,q,⟨K2,h2⟩,N1⟩:=rMake_rep hq (by omega) (s != t) (n:=qn n m) (by rw[ha.sign,hb.sign];rfl)
 obtain⟨v,r,⟨K3,h3⟩,N2⟩:=rMake_rep hr (by omega) s (n:=rn n m) (by rw[ha.sign];rfl)
 have eq1:((qn n m).natAbs:Int)=(n.natAbs:Int)/(m.natAbs:Int):=by
  have:0≤(n.natAbs:Int)/(m.natAbs:Int):=Int.ediv_nonneg (by omega) (by omega)
  unfold qn;split<;>omega
 have er1:((rn n m).natAbs:Int)=(n.natAbs:Int)%(m.natAbs:Int):=by
  have:0≤(n.natAbs:Int)%(m.natAbs:Int):=Int.emod_nonneg _ (by omega)
  unfold rn;split<;>omega
 refine⟨u,q,v,r,⟨K1+K2+K3,fun k hk=>?_⟩,N1,N2,rep_len (by decide) N1.rep (by rw[eq1];exact d1),rep_len (by decide) N2.rep (by rw[er1];exact d2)⟩
 have e1:tribunalref02_divD.f k a b=_:=h1 k (by omega)
 have e2:tribunalref02_Make.f k (s != t) q0=_:=h2 k (by omega)
 have e3:tribunalref02_Make.f k s r0=_:=h3 k (by omega)
 show tribunalref02_Cut.f k s a t b=_
 rw[tribunalref02_Cut.f,e1,Option.bind_some,e2,Option.bind_some,e3,Option.bind_some]
theorem long_eq (l:List Int) (s:Bool):whole_number_long.f l s=some (decide ((l.length:Int)>4096)):=rfl
theorem null_eq (l:List Int):whole_amount_null.f l=some (decide (l=[])):=by
 rw[whole_amount_null.f]
 congr 1
 cases l<;>simp<;>omega
theorem num_nil {B n:Int} (hB:0<B) {s:Bool} {a:List Int} (h:Num B n s a):a=[]↔n=0:=by
 rw[h.rep.nil_iff hB];omega
theorem one_num:whole_one.f=some ([1],false)∧Num 18446744073709551616 1 false [1]:=
 ⟨rfl,⟨⟨by rw[Dig.cons];exact⟨by decide,Dig.nil⟩,by simp[Top],by simp[val]⟩,rfl⟩⟩
theorem qn_abs (n m:Int):((qn n m).natAbs:Int)=(n.natAbs:Int)/(m.natAbs:Int):=by
 have:0≤(n.natAbs:Int)/(m.natAbs:Int):=Int.ediv_nonneg (by omega) (by omega)
 unfold qn;split<;>omega
theorem rn_abs (n:Int) {m:Int} (hm:m≠0):((rn n m).natAbs:Int)=(n.natAbs:Int)%(m.natAbs:Int):=by
 have:0≤(n.natAbs:Int)%(m.natAbs:Int):=Int.emod_nonneg _ (by omega)
 unfold rn;split<;>omega
theorem qn_le (n m:Int):((qn n m).natAbs:Int)≤n.natAbs:=by
 rw[qn_abs];exact Int.ediv_le_self _ (by omega)
theorem rn_lt (n:Int) {m:Int} (hm:m≠0):((rn n m).natAbs:Int)<m.natAbs:=by
 rw[rn_abs n hm];exact Int.emod_lt_of_pos _ (by omega)
theorem len_small {B n k:Int} (hB:0<B) {s t:Bool} {a q:List Int} (ha:Num B n s a) (hq:Num B k t q) (h:(k.natAbs:Int)≤n.natAbs):q.length≤a.length:=
 rep_len hB hq.rep (Int.lt_of_le_of_lt h (ha.rep.lt hB))
end Go.Proofs.YtikencoikigllaaGreatDoor.PurePRy
namespace Go.Proofs.YtikencoikigllaaGreatDoor.PurePRy
set_option linter.unusedVariables false
set_option linter.unusedSimpArgs false
open Go.RowKit Go.Proofs.YtikencoikigllaaGreatDoorW.PrintWords Go.Proofs.YtikencoikigllaaGreatDoorW.PrintLast Go.Proofs.YtikencoikigllaaGreatDoorW.PrintMore Go.Proofs.YtikencoikigllaaGreatDoor.PRy Go.Proofs.YtikencoikigllaaGreatDoor Go.Proofs.YtikencoikigllaaGreatDoor.Mine Big
def AN (L:Nat) (n:Int) (s:Bool) (l:List Int):Prop:=∃a s1,Ev (fun k=>whole_of.f k s l) (a,s1)∧Num 18446744073709551616 n s1 a∧a.length≤L
theorem of_num' {n:Int} {s:Bool} {r:List Int} (h:Num 18446744073709551616 n s r) (hl:r.length≤1048576):Ev (fun k=>whole_of.f k s r) (r,s):=by
 obtain⟨q,hq,_,h1,h2,h3⟩:=of_ev s r hl h.rep.dig
 have e:q=r:=h.rep.uniq (by decide) ⟨h1,h2,h3.trans h.rep.val⟩ |>.symm
 subst e
 have e1:=h.sign
 have e2:=h.rep.pos_iff (by decide)
 have es:(s&&decide (0<q.length))=s:=by
  cases s
  ·rfl
  have hn:n<0:=of_decide_eq_true e1.symm
  have:=e2.2 (by omega)
  simp[this]
 rw[es]at hq
 exact hq
theorem AN.of {L:Nat} {n:Int} {s:Bool} {r:List Int} (h:Num 18446744073709551616 n s r) (hl:r.length≤L) (hL:L≤1048576):AN L n s r:=⟨r,s,of_num' h (by omega),h,hl⟩
theorem AN.up {L L':Nat} {n:Int} {s:Bool} {l:List Int} (h:AN L n s l) (hL:L≤L'):AN L' n s l:=by
 obtain⟨a,s1,h1,h2,h3⟩:=h
 exact⟨a,s1,h1,h2,by omega⟩
theorem told_ok (s:Bool) {l:List Int} (h:l.length≤4096):whole_number_told.f l s=some (s,l,0):=by
 simp only[whole_number_told.f,whole_number_long.f,Option.bind_some]
 rw[if_neg (by simp;omega),whole_number_out.f,api_Nat_uint64.f,if_pos (by omega),Option.bind_some,Option.bind_some]
theorem out_ok (s:Bool) {l:List Int} (h:l.length≤1048576):whole_number_out.f l s=some (s,l):=by
 rw[whole_number_out.f,api_Nat_uint64.f,if_pos (by omega),Option.bind_some]
section
variable {L L':Nat} {n m:Int} {s t:Bool} {l p:List Int}
theorem AN.add (h:AN L n s l) (g:AN L' m t p) (hL:L≤4000) (hL':L'≤4000):∃u q,Ev (fun k=>whole_Add.f k s l t p) (u,q,0)∧Num 18446744073709551616 (n+m) u q∧q.length≤max L L'+1:=by
 obtain⟨a,s1,⟨K1,e1⟩,N1,l1⟩:=h
 obtain⟨b,s2,⟨K2,e2⟩,N2,l2⟩:=g
 obtain⟨u,r,⟨K3,e3⟩,N3⟩:=plus_num N1 N2 (by omega) (by omega)
 have hr:=num_len (by decide) N1 N2 N3 (by omega) (L:=max L L') (by omega) (by omega)
 refine⟨u,r,⟨K1+K2+K3,fun k hk=>?_⟩,N3,hr⟩
 have g1:whole_of.f k s l=_:=e1 k (by omega)
 have g2:whole_of.f k t p=_:=e2 k (by omega)
 have g3:whole_number_plus.f k a s1 b s2=_:=e3 k (by omega)
 show whole_Add.f k s l t p=_
 rw[whole_Add.f,g1,Option.bind_some,g2,Option.bind_some,g3,Option.bind_some,told_ok u (show r.length≤4096 by omega),Option.bind_some]
theorem AN.cmp (h:AN L n s l) (g:AN L' m t p) (hL:L≤1048576) (hL':L'≤1048576):Ev (fun k=>whole_Cmp.f k s l t p) (sg (n-m)):=by
 obtain⟨a,s1,⟨K1,e1⟩,N1,l1⟩:=h
 obtain⟨b,s2,⟨K2,e2⟩,N2,l2⟩:=g
 obtain⟨K3,e3⟩:=cmp_num N1 N2 (by omega) (by omega)
 refine⟨K1+K2+K3,fun k hk=>?_⟩
 have g1:whole_of.f k s l=_:=e1 k (by omega)
 have g2:whole_of.f k t p=_:=e2 k (by omega)
 have g3:whole_number_cmp.f k a s1 b s2=_:=e3 k (by omega)
 show whole_Cmp.f k s l t p=_
 rw[whole_Cmp.f,g1,Option.bind_some,g2,Option.bind_some,g3,Option.bind_some]
theorem nil_num' (B:Int):Num B 0 false []:=⟨⟨Dig.nil,trivial,rfl⟩,rfl⟩
theorem AN.sign (h:AN L n s l) (hL:L≤1048576):Ev (fun k=>whole_Sign.f k s l) (sg n):=by
 obtain⟨a,s1,⟨K1,e1⟩,N1,l1⟩:=h
 obtain⟨K3,e3⟩:=cmp_num N1 (nil_num' _) (by omega) (by simp)
 refine⟨K1+K3,fun k hk=>?_⟩
 have g1:whole_of.f k s l=_:=e1 k (by omega)
 have g3:whole_number_cmp.f k a s1 [] false=_:=e3 k (by omega)
 show whole_Sign.f k s l=_
 rw[whole_Sign.f,g1,Option.bind_some,g3,Option.bind_some,Int.sub_zero]
theorem pair_ok (u v:Bool) {q r:List Int} (hq:q.length≤4096) (hr:r.length≤4096):Ev (fun k=>whole_pair.f k q u r v) (u,q,v,r,0):=by
 refine⟨1,fun k hk=>?_⟩
 obtain⟨k,rfl⟩:∃j,k=j+1:=⟨k-1,by omega⟩
 show whole_pair.f (k+1) q u r v=_
 rw[whole_pair.f,long_eq,Option.bind_some,if_neg (by simp;omega),long_eq,Option.bind_some,whole_pair.j0,if_neg (by simp;omega),out_ok _ (show q.length≤1048576 by omega),Option.bind_some,out_ok _ (show r.length≤1048576 by omega),Option.bind_some]
theorem AN.quo (h:AN L n s l) (g:AN L' m t p) (hm:m≠0) (hL:L≤4000) (hL':L'≤4000):∃u q v r,Ev (fun k=>whole_Quo.f k s l t p) (u,q,v,r,0)∧Num 18446744073709551616 (qn n m) u q∧Num 18446744073709551616 (rn n m) v r∧q.length≤L∧r.length≤L':=by
 obtain⟨a,s1,⟨K1,e1⟩,N1,l1⟩:=h
 obtain⟨b,s2,⟨K2,e2⟩,N2,l2⟩:=g
 obtain⟨u,q,v,r,⟨K3,e3⟩,N3,N4⟩:=cut_num N1 N2 hm (by omega) (by omega)
 have hne:¬decide (b=[])=true:=by simpa using fun h=>hm ((num_nil (by decide) N2).1 h)
 have lq:=len_small (by decide) N1 N3 (qn_le n m)
 have lr:=len_small (by decide) N2 N4 (Int.le_of_lt (rn_lt n hm))
 obtain⟨K4,e4⟩:=pair_ok u v (q:=q) (r:=r) (by omega) (by omega)
 refine⟨u,q,v,r,⟨K1+K2+K3+K4,fun k hk=>?_⟩,N3,N4,by omega,by omega⟩
 have g1:whole_of.f k s l=_:=e1 k (by omega)
 have g2:whole_of.f k t p=_:=e2 k (by omega)
 have g3:whole_number_cut.f k a s1 b s2=_:=e3 k (by omega)
 have g4:whole_pair.f k q u r v=_:=e4 k (by omega)
 show whole_Quo.f k s l t p=_
 rw[whole_Quo.f,g2,Option.bind_some,null_eq,Option.bind_some,if_neg hne,g1,Option.bind_some,g3,Option.bind_some,g4,Option.bind_some]
theorem AN.one:∃v q,Ev (fun k=>whole_Of.f k 1) (v,q)∧Num 18446744073709551616 1 v q∧q.length≤1:=by
 have e:whole_Of.f 5 1=some (false,[1]):=by kernel_rfl
 exact⟨false,[1],Ev.of (fun k=>whole_Of.mono 1 k) (k:=5) e,one_num.2,by simp⟩
end
end Go.Proofs.YtikencoikigllaaGreatDoor.PurePRy
namespace Go.Proofs.YtikencoikigllaaGreatDoor.PurePRy
set_option linter.unusedVariables false
set_option linter.unusedSimpArgs false
open Go.RowKit Go.Proofs.YtikencoikigllaaGreatDoorW.PrintWords Go.Proofs.YtikencoikigllaaGreatDoorW.PrintLast Go.Proofs.YtikencoikigllaaGreatDoorW.PrintMore Go.Proofs.YtikencoikigllaaGreatDoor.PRy Go.Proofs.YtikencoikigllaaGreatDoor Go.Proofs.YtikencoikigllaaGreatDoor.Mine Big
theorem Ev.step' {α:Type} {f g:Nat→Option α} {z:α} (K0:Nat) (h:Ev f z) (e:∀k,K0≤k→g (k+1)=f k):Ev g z:=by
 obtain⟨K,hK⟩:=h
 refine⟨K+K0+1,fun k hk=>?_⟩
 obtain⟨k,rfl⟩:∃j,k=j+1:=⟨k-1,by omega⟩
 rw[e k (by omega)]
 exact hK k (by omega)
theorem rd_T25_nat'' (l:List S26) (n:Nat) (h:n<l.length):rd_T26 l (n:Int)=l[n]:=by
 simp[rd_T26,List.getD_eq_getElem?_getD,List.getElem?_eq_getElem h]
theorem gcd_mod (a b:Nat):Nat.gcd a b=Nat.gcd b (a%b):=by rw[Nat.gcd_comm,Nat.gcd_rec,Nat.gcd_comm]
theorem gcd_rn (n:Int) {m:Int} (hm:m≠0):Nat.gcd n.natAbs m.natAbs=Nat.gcd m.natAbs (rn n m).natAbs:=by
 have h:(rn n m).natAbs=n.natAbs%m.natAbs:=by
  have:=rn_abs n hm
  rw[←Int.natCast_emod]at this
  exact Int.ofNat.inj this
 rw[h,←gcd_mod]
theorem Gcd_l2 (l:List S26) (x24 x25:Int):∀(g u v:Nat) (x6 x9:List Int),v≤g→Rep 18446744073709551616 (u:Int) x6→Rep 18446744073709551616 (v:Int) x9→x6.length≤8388600→x9.length≤8388600 →
  ∃r,Rep 18446744073709551616 ((Nat.gcd u v:Nat):Int) r∧∀z,Ev (fun k=>whole_Gcd.l1 k r l x24 (wrap64 (x25+1))) z→Ev (fun k=>whole_Gcd.l2 k x6 x9 l x24 x25) z:=by
 intro g
 induction g with
 | zero=>
  intro u v x6 x9 hv h1 h2 l1 l2
  obtain rfl:v=0:=by omega
  have e:x9=[]:=(h2.nil_iff (by decide)).2 rfl
  subst e
  refine⟨x6,by rw[Nat.gcd_zero_right];exact h1,fun z hz=>Ev.step' 0 hz fun k _=>?_⟩
  rw[whole_Gcd.l2,null_eq,Option.bind_some,if_pos (by simp)]
 | succ g ih=>
  intro u v x6 x9 hv h1 h2 l1 l2
  by_cases h0:v=0
  ·subst h0
   have e:x9=[]:=(h2.nil_iff (by decide)).2 rfl
   subst e
   refine⟨x6,by rw[Nat.gcd_zero_right];exact h1,fun z hz=>Ev.step' 0 hz fun k _=>?_⟩
   rw[whole_Gcd.l2,null_eq,Option.bind_some,if_pos (by simp)]
  obtain⟨q,r,⟨K,hK⟩,hq,hr⟩:=quo_ev h1 h2 (by omega) l1 l2
  have hlt:=Nat.mod_lt u (show 0<v by omega)
  rw[←Int.natCast_emod]at hr
  have lr:=rep_len (by decide) hr (Int.lt_of_le_of_lt (show((u%v:Nat):Int)≤(v:Int) by omega) (h2.lt (by decide)))
  have hne:¬decide (x9=[])=true:=by
   have:=h2.nil_iff (by decide)
   simp[this,h0]
  obtain⟨s,hs,hz'⟩:=ih v (u%v) x9 r (by omega) h2 hr l2 (by omega)
  refine⟨s,by rw[gcd_mod];exact hs,fun z hz=>Ev.step' K (hz' z hz) fun k hk=>?_⟩
  have e:whole_amount_quo.f k x6 x9=_:=hK k hk
  rw[whole_Gcd.l2,null_eq,Option.bind_some,if_neg hne,e,Option.bind_some]
theorem Gcd_s0 (k:Nat) (l:List S26) (i:Nat) (a1:List Int) (s1:Bool) (hi:i<l.length) (hl:l.length≤1048576) (h1:whole_of.f k l[i].f0 l[i].f1=some (a1,s1)) (h2:a1.length≤4096) :
  whole_Gcd.l0 (k+1) l l (l.length:Int) (i:Int)=whole_Gcd.l0 k l l (l.length:Int) ((i+1:Nat):Int):=by
 have hwr:wrap64 ((i:Int)+1)=((i+1:Nat):Int):=by rw[w64 _ (by omega)];omega
 rw[whole_Gcd.l0,if_pos (by omega),if_pos (by omega),if_pos (by omega),rd_T25_nat'' l i hi,h1,Option.bind_some,long_eq,Option.bind_some,if_neg (by simpa using by omega),hwr]
theorem Gcd_e0 (k:Nat) (l:List S26):whole_Gcd.l0 (k+1) l l (l.length:Int) (l.length:Int)=whole_Gcd.l1 k [] l (l.length:Int) 0:=by
 rw[whole_Gcd.l0,if_neg (by omega)]
theorem Gcd_s1 (k:Nat) (l:List S26) (i:Nat) (x6 a1:List Int) (s1:Bool) (hi:i<l.length) (hl:l.length≤1048576) (h1:whole_of.f k l[i].f0 l[i].f1=some (a1,s1)) :
  whole_Gcd.l1 (k+1) x6 l (l.length:Int) (i:Int)=whole_Gcd.l2 k x6 a1 l (l.length:Int) (i:Int):=by
 rw[whole_Gcd.l1,if_pos (by omega),if_pos (by omega),if_pos (by omega),rd_T25_nat'' l i hi,h1,Option.bind_some]
theorem Gcd_e1 (k:Nat) (l:List S26) (r:List Int) (hr:r.length≤4096):whole_Gcd.l1 (k+1) r l (l.length:Int) (l.length:Int)=some (false,r,0):=by
 rw[whole_Gcd.l1,if_neg (by omega),signed_eq,Option.bind_some,Bool.false_and,told_ok false hr,Option.bind_some]
theorem Gcd_two {n m:Int} {s t:Bool} {l p:List Int} {L:Nat} (hL:L≤4096) (h:AN L n s l) (g:AN L m t p):∃r,Ev (fun k=>whole_Gcd.f k [⟨s,l⟩,⟨t,p⟩]) (false,r,0)∧Num 18446744073709551616 ((Nat.gcd n.natAbs m.natAbs:Nat):Int) false r:=by
 obtain⟨a,s1,⟨K1,e1⟩,N1,l1⟩:=h
 obtain⟨b,s2,⟨K2,e2⟩,N2,l2⟩:=g
 obtain⟨r1,hr1,c1⟩:=Gcd_l2 [⟨s,l⟩,⟨t,p⟩] 2 0 n.natAbs 0 n.natAbs [] a (Nat.le_refl _) (nil_num' _).rep N1.rep (by simp) (by omega)
 rw[Nat.gcd_zero_left]at hr1
 obtain rfl:=hr1.uniq (by decide) N1.rep
 obtain⟨r,hr,c2⟩:=Gcd_l2 [⟨s,l⟩,⟨t,p⟩] 2 1 m.natAbs n.natAbs m.natAbs r1 b (Nat.le_refl _) N1.rep N2.rep (by omega) (by omega)
 rw[show wrap64 ((0:Int)+1)=1 from(w64 _ (by omega)).trans rfl]at c1
 rw[show wrap64 ((1:Int)+1)=2 from(w64 _ (by omega)).trans rfl]at c2
 have lr:r.length≤4096:=by
  by_cases hn:n.natAbs=0
  ·rw[hn,Nat.gcd_zero_left]at hr
   rw[hr.uniq (by decide) N2.rep];omega
  have h1:=Nat.gcd_le_left m.natAbs (show 0<n.natAbs by omega)
  have:=rep_len (by decide) hr (Int.lt_of_le_of_lt (show _≤(n.natAbs:Int) by omega) (N1.rep.lt (by decide)))
  omega
 have z2:Ev (fun k=>whole_Gcd.l1 k r [⟨s,l⟩,⟨t,p⟩] 2 2) (false,r,0):=Ev.step' (f:=fun _=>some (false,r,0)) 0 ⟨0,fun _ _=>rfl⟩ fun k _=>Gcd_e1 k [⟨s,l⟩,⟨t,p⟩] r lr
 have z0:Ev (fun k=>whole_Gcd.l1 k r1 [⟨s,l⟩,⟨t,p⟩] 2 1) (false,r,0):=Ev.step' K2 (c2 _ z2) fun k hk=>Gcd_s1 k [⟨s,l⟩,⟨t,p⟩] 1 r1 b s2 (by simp) (by simp) (e2 k hk)
 have y1:Ev (fun k=>whole_Gcd.l1 k [] [⟨s,l⟩,⟨t,p⟩] 2 0) (false,r,0):=Ev.step' K1 (c1 _ z0) fun k hk=>Gcd_s1 k [⟨s,l⟩,⟨t,p⟩] 0 [] r1 s1 (by simp) (by simp) (e1 k hk)
 have y0:Ev (fun k=>whole_Gcd.l0 k [⟨s,l⟩,⟨t,p⟩] [⟨s,l⟩,⟨t,p⟩] 2 2) (false,r,0):=Ev.step' 0 y1 fun k _=>Gcd_e0 k [⟨s,l⟩,⟨t,p⟩]
 have x1:Ev (fun k=>whole_Gcd.l0 k [⟨s,l⟩,⟨t,p⟩] [⟨s,l⟩,⟨t,p⟩] 2 1) (false,r,0):=Ev.step' K2 y0 fun k hk=>Gcd_s0 k [⟨s,l⟩,⟨t,p⟩] 1 b s2 (by simp) (by simp) (e2 k hk) (by omega)
 have x0:Ev (fun k=>whole_Gcd.l0 k [⟨s,l⟩,⟨t,p⟩] [⟨s,l⟩,⟨t,p⟩] 2 0) (false,r,0):=Ev.step' K1 x1 fun k hk=>Gcd_s0 k [⟨s,l⟩,⟨t,p⟩] 0 r1 s1 (by simp) (by simp) (e1 k hk) (by omega)
 exact⟨r,x0,⟨by rw[Int.natAbs_natCast];exact hr,by simp⟩⟩
end Go.Proofs.YtikencoikigllaaGreatDoor.PurePRy
