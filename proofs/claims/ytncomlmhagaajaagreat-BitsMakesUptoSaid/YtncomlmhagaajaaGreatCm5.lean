/- Part 5 of what the card rests on. -/
import Derived.Laws.Bits64b
import Derived.OpenShut
import Derived.Test.YtncomlmhagaajaaGreatCm4
set_option maxHeartbeats 8000000
set_option maxRecDepth 100000
set_option linter.unusedVariables false
set_option linter.unusedSimpArgs false
namespace Go.Proofs.YtncomlmhagaajaaGreat.PBo
open Go.Proofs.YtncomlmhagaajaaGreat.Mine Go.RowKit Go.Proofs.YtncomlmhagaajaaGreatW.PrintWords Go.Proofs.YtncomlmhagaajaaGreatW.PrintLast Go.Proofs.YtncomlmhagaajaaGreatW.PrintMore
open Go.Proofs.YtncomlmhagaajaaGreat.Mine
attribute [local go_sem] max2_int min2_int max_two min_two max_three min_three max_four min_four
def tribunalref09_Mod.f (k:Nat) (a0:Int) (a1_0:Bool) (l1_1:List Int):Option (Int×List Int):=(tribunalref09_Power.f k a0).bind fun bt1211=>((tribunalref02_Euclid.f k a1_0 l1_1 bt1211.1 bt1211.2).bind fun bt1215=>((tribunalref02_To.f k bt1215.2.2.1 bt1215.2.2.2).bind fun bt1225=>(some (a0,bt1225.2))))
def tribunalref09_Mod.T1:Bool×List (List Nat×List Nat):=(true,[([],[]),([],[]),([1],[1]),([0,2,2],[0,2]),([3],[3]),([4],[4]),([4],[4]),([],[]),([],[]),([7,5,3,0,1,2,3,4,5,7,8],[5,7]),([8,6,9,0,1,2,3,4,5,6,7,8,9],[6,8])])
def tribunalref09_Mod.B1:List Nat:=[0,0,2,7,15,31,31,0,0,447,1023]
theorem tribunalref09_Mod.tab1:rtab .any (opsOf Tryz.f41 1)=tribunalref09_Mod.T1:=by kernel_rfl
theorem tribunalref09_Mod.bits1:waitsOk tribunalref09_Mod.T1.2 tribunalref09_Mod.B1=true:=by kernel_rfl
theorem tribunalref09_Mod.calls (k:Nat) (a0:Int) (ab:Bool) (ac:Option Addr) (ad:Nat) (aa:List Int) (r1:Int) (r2:List Int) (w:World) (ae:Kd.C (Kd.int .u16) w ac aa.length aa) (af:aa.length≤ad) (h:tribunalref09_Mod.f k a0 ab aa=some (r1,r2)) :
  Calls Tryz.prog 41 #[.int .i64 a0,.agg #[.bool ab,.slice ac aa.length ad]] w fun e w'=>∃v1_:Value,e=.returned (.agg #[.int .i64 r1,v1_])∧Kd.R (Kd.int .u64) 48 w' w.heap.size (fun _=>True) v1_ r2∧Below w.heap.size w w':=by
 have aw:=Tryz.underlying28
 have ax:=Tryz.underlying81
 have av:∀(v0_ v1_:Value) (W_:World),(Instr.field 43 (.agg #[v0_,v1_]) 1).run Tryz.prog W_=.ok (v1_) W_:=fun _ _ _=>by kernel_rfl
 have K:=Kp.refl w
 replace K:=K.parV (Kd.V_mono (ok':=fun _=>True) (Kd.V_mk (e:=127) (base:=0) af (Kd.C_F (Kd.heap_int .u16) ae)) (fun _ h=>trivial))
 clear ae af
 try simp only[klv]at K
 rw[tribunalref09_Mod.f]at h
 go_enter Tryz.func41,Tryz.ntmps41
 go_wp2_with (first|((with_reducible refine gate_dst (N:=3) rfl ?_);refine kbe 3 #[.bool ab,.slice ac aa.length ad] 81 ?_;intro g1 hg W2 hx hb;replace K:=K.u.box hg hx hb;clear hg hx hb)|((with_reducible refine gate_dst (N:=4) rfl ?_);refine kbe 4 #[.int .i64 0,.slice none 0 0] 28 ?_;intro g3 hg W4 hx hb;replace K:=K.u.box hg hx hb;clear hg hx hb))
 replace h:=bindA h
 obtain⟨⟨z5,x6⟩,A7,h⟩:=h
 dsimp only at h
 replace h:=bindA h
 obtain⟨⟨z8,x9,z10,x11⟩,A12,h⟩:=h
 dsimp only at h
 obtain⟨Bs,Vs,Os,hBs,hVs,hOs,K⟩:=K.abs
 have HS:Aside0 (∀l m o W,Kp w (Bs++l) m o W→W.cell? ⟨g1,0,none⟩=some (.bool ab)∧W.cell? ⟨g1,1,none⟩=some (.slice ac aa.length ad)):=⟨fun l m o W K=>by rw[hBs.out]at K;exact⟨K.cell 0 rfl 0 rfl,K.cell 0 rfl 1 rfl⟩⟩
 refine kpstart (n:=11) (ds:=[]) (S:=fun W=>W.cell? ⟨g1,0,none⟩=some (.bool ab)∧W.cell? ⟨g1,1,none⟩=some (.slice ac aa.length ad)) #[false,false,false,false,false,false,false,false,false,false,false] Y0 rfl rfl K (HS.out [] _ _) (fun W18 K hH=>?_)
 refine with_tabW tribunalref09_Mod.tab1 tribunalref09_Mod.bits1 (fun HT_ HW_=>?_)
 refine take_ (i:=0) (N:=some 8) (v:=?_) (a':=?_) #[true,false,false,false,false,false,false,false,false,false,false] rfl rfl (take_ofW HT_.out HW_.out Y0) (fun _ _ _ h=>h) (Or.inl ⟨F0,?_⟩) hH ?_ ?_
 rotate_left
 ·rintro w' ⟨s0,s1⟩
  go_simp
  with_reducible rfl
 rotate_left
 ·simp only[Act.put,kss,i64_w,i32_w]
  rfl
 refine pure_ (i:=1) (N:=some 9) (v:=?_) (a':=?_) #[true,true,false,false,false,false,false,false,false,false,false] rfl rfl (any_of HT_.out Y0) (fun _ _ _ h=>h) (Or.inl ⟨F0,?_⟩) ?_ ?_
 rotate_left
 ·intro w'
  go_simp
  with_reducible rfl
 rotate_left
 ·simp only[Act.put,kss,i64_w,i32_w]
  rfl
 refine join_ (σ:=Value×Value×Value×Nat×Nat) 2 #[true,true,true,true,true,true,true,true,true,false,false] (fun s=>[(10,.agg #[.bool z5,s.1]),(11,.tuple #[.agg #[.bool z8,s.2.1],.agg #[.bool z10,s.2.2.1]]),(7,.tuple #[.agg #[.bool z8,s.2.1],.agg #[.bool z10,s.2.2.1]]),(12,.agg #[.bool z8,s.2.1]),(13,.agg #[.bool z10,s.2.2.1]),(5,.pointer (some ⟨s.2.2.2.1,0,none⟩)),(6,.pointer (some ⟨s.2.2.2.2,0,none⟩))]) (fun s W=>Kp w (Bs++[(s.2.2.2.1,#[.bool false,.slice none 0 0],81),(s.2.2.2.2,#[.bool false,.slice none 0 0],81)]) (Vs++[⟨Kd.int .u16,127,s.1,x6,fun _=>True⟩,⟨Kd.int .u16,127,s.2.1,x9,fun _=>True⟩,⟨Kd.int .u16,127,s.2.2.1,x11,fun _=>True⟩]) (Os++[]) W) ?_ (fun J19=>?_)
 ·rintro⟨v13,v14,v15,g16,g17⟩ W K
  try dsimp only at K
  have hH:=HS.out _ _ _ _ K
  refine norm_ (a':=?_) ?_ ?_
  rotate_left
  ·try simp only[putAll,Act.put,kss]
   rfl
  obtain⟨P26,c27,e28⟩:=K.slice 1 X1
  subst e28
  obtain⟨P29,c30,e31⟩:=K.slice 2 X1
  subst e31
  obtain⟨P32,c33,e34⟩:=K.slice 3 X1
  subst e34
  rw[hBs.out,hVs.out,hOs.out]at K
  simp only[kls,klv]at K
  clear hBs hVs hOs HS hH
  refine kone2 (i:=9) #[true,true,true,true,true,true,true,true,true,true,false] 2 (.bool z8) (.slice P29 x9.length c30) K rfl rfl rfl (one_of HT_.out Y0) X0 F0 ?_ (fun W K=>⟨K.cell 0 rfl 0 rfl,K.cell 0 rfl 1 rfl⟩) ?_
  ·intro c0 c1 f0 f1
   first|(go_simp;done)|(go_simp;rfl)
  clear K
  intro W35 K
  simp only[kls,klv]at K
  refine kone2 (i:=10) #[true,true,true,true,true,true,true,true,true,true,true] 3 (.bool z10) (.slice P32 x11.length c33) K rfl rfl rfl (one_of HT_.out Y0) X0 F0 ?_ (fun W K=>⟨K.cell 0 rfl 0 rfl,K.cell 0 rfl 1 rfl⟩) ?_
  ·intro c0 c1 f0 f1
   first|(go_simp;done)|(go_simp;rfl)
  clear K
  intro W36 K
  simp only[kls,klv]at K
  refine done_ (done_of HT_.out Y0) ?_
  clear HT_ HW_
  replace h:=bindA h
  obtain⟨⟨z37,x38⟩,A39,h⟩:=h
  dsimp only at h
  simp only[Option.some.injEq,Prod.mk.injEq]at h
  obtain⟨rfl,rfl⟩:=h
  obtain⟨ua3,ub3⟩:=K.cell2 3 rfl
  go_wp2_with (first|((with_reducible refine gate_dst (N:=16) rfl ?_);clear ua3 ub3;refine kgl (some 16) rfl rfl Tryz.func50 #[.agg #[.bool z10,.slice P32 x11.length c33]] rfl ?_;refine(tribunalref02_To.calls _ z10 _ _ x11 z37 x38 _ (K.C 3 rfl) (K.le 3 rfl) A39.out).mono ?_;rintro e W42 ⟨v40,rfl,ag,hb⟩;refine⟨_,rfl,?_⟩;replace K:=K.u.addRE hb ag;clear hb ag;obtain⟨P43,c44,e45⟩:=K.slice 4 rfl;subst e45)|((with_reducible refine gate_store (t:=28) (p:=4) (v:=.tmp 18) rfl ?_);refine kst2 1 (.int .i64 a0) (.slice P43 x38.length c44) K.u rfl ?q47 ?_;(case q47=>intro c0 c1 f0 f1;first|(go_simp;done)|(go_simp;rfl));clear K;intro W46 K;simp only[kls,klv]at K))
  refine bodyPost_ret (results_single rfl (.cell g3 28 #[.int .i64 a0,.slice P43 x38.length c44] (0,0) _ rfl (K.u.heap 1 rfl) Tryz.underlying28 rfl Y0 .nil)) rfl ?_
  exact⟨_,rfl,K.u.R 0 rfl,K.u.below⟩
 refine join_ (σ:=Value×Value×Value×Nat×Nat) 3 #[true,true,true,true,true,true,true,false,true,false,false] (fun s=>[(10,.agg #[.bool z5,s.1]),(11,.tuple #[.agg #[.bool z8,s.2.1],.agg #[.bool z10,s.2.2.1]]),(7,.tuple #[.agg #[.bool z8,s.2.1],.agg #[.bool z10,s.2.2.1]]),(12,.agg #[.bool z8,s.2.1]),(13,.agg #[.bool z10,s.2.2.1]),(6,.pointer (some ⟨s.2.2.2.2,0,none⟩))]) (fun s W=>Kp w (Bs++[(s.2.2.2.2,#[.bool false,.slice none 0 0],81)]) (Vs++[⟨Kd.int .u16,127,s.1,x6,fun _=>True⟩,⟨Kd.int .u16,127,s.2.1,x9,fun _=>True⟩,⟨Kd.int .u16,127,s.2.2.1,x11,fun _=>True⟩]) (Os++[]) W) ?_ (fun J20=>?_)
 ·rintro⟨v13,v14,v15,g16,g17⟩ W K
  try dsimp only at K
  have hH:=HS.out _ _ _ _ K
  refine norm_ (a':=?_) ?_ ?_
  rotate_left
  ·try simp only[putAll,Act.put,kss]
   rfl
  refine one_ (i:=7) (N:=some 5) #[true,true,true,true,true,true,true,true,true,false,false] rfl rfl (one_of HT_.out Y0) X0 (fun Kc hK=>?_)
  exact kbx #[.bool false,.slice none 0 0] 81 5 fun g16 hg W' hx hb=>hK.out _ _ (HS.out _ _ _ _ (K.boxI 0 (Nat.le_of_ble_eq_true rfl) hg hx hb)) fun _=>knq (J19 (v13,v14,v15,g16,g17) _ (K.boxI 0 (Nat.le_of_ble_eq_true rfl) hg hx hb))
 refine join_ (σ:=Value×Value×Value×Nat×Nat) 3 #[true,true,true,true,true,true,true,true,false,false,false] (fun s=>[(10,.agg #[.bool z5,s.1]),(11,.tuple #[.agg #[.bool z8,s.2.1],.agg #[.bool z10,s.2.2.1]]),(7,.tuple #[.agg #[.bool z8,s.2.1],.agg #[.bool z10,s.2.2.1]]),(12,.agg #[.bool z8,s.2.1]),(13,.agg #[.bool z10,s.2.2.1]),(5,.pointer (some ⟨s.2.2.2.1,0,none⟩))]) (fun s W=>Kp w (Bs++[(s.2.2.2.1,#[.bool false,.slice none 0 0],81)]) (Vs++[⟨Kd.int .u16,127,s.1,x6,fun _=>True⟩,⟨Kd.int .u16,127,s.2.1,x9,fun _=>True⟩,⟨Kd.int .u16,127,s.2.2.1,x11,fun _=>True⟩]) (Os++[]) W) ?_ (fun J21=>?_)
 ·rintro⟨v13,v14,v15,g16,g17⟩ W K
  try dsimp only at K
  have hH:=HS.out _ _ _ _ K
  refine norm_ (a':=?_) ?_ ?_
  rotate_left
  ·try simp only[putAll,Act.put,kss]
   rfl
  refine one_ (i:=8) (N:=some 6) #[true,true,true,true,true,true,true,true,true,false,false] rfl rfl (one_of HT_.out Y0) X0 (fun Kc hK=>?_)
  exact kbx #[.bool false,.slice none 0 0] 81 6 fun g17 hg W' hx hb=>hK.out _ _ (HS.out _ _ _ _ (K.boxI 1 (Nat.le_of_ble_eq_true rfl) hg hx hb)) fun _=>knq (J19 (v13,v14,v15,g16,g17) _ (K.boxI 1 (Nat.le_of_ble_eq_true rfl) hg hx hb))
 refine join_ (σ:=Value×Value×Value×Nat×Nat) 6 #[true,true,true,false,false,false,false,true,true,false,false] (fun s=>[(10,.agg #[.bool z5,s.1]),(5,.pointer (some ⟨s.2.2.2.1,0,none⟩)),(6,.pointer (some ⟨s.2.2.2.2,0,none⟩))]) (fun s W=>Kp w (Bs++[(s.2.2.2.1,#[.bool false,.slice none 0 0],81),(s.2.2.2.2,#[.bool false,.slice none 0 0],81)]) (Vs++[⟨Kd.int .u16,127,s.1,x6,fun _=>True⟩]) (Os++[]) W) ?_ (fun J22=>?_)
 ·rintro⟨v13,v14,v15,g16,g17⟩ W K
  try dsimp only at K
  have hH:=HS.out _ _ _ _ K
  refine norm_ (a':=?_) ?_ ?_
  rotate_left
  ·try simp only[putAll,Act.put,kss]
   rfl
  refine one_ (i:=3) (N:=some 11) #[true,true,true,true,false,false,false,true,true,false,false] rfl rfl (one_of HT_.out Y0) X0 (fun Kc hK=>?_)
  obtain⟨P48,c49,e50⟩:=K.slice 1 X1
  subst e50
  refine kgo Tryz.func78 #[.agg #[.bool ab,.slice ac aa.length ad],.agg #[.bool z5,.slice P48 x6.length c49]] F0 rfl rfl ?_
  refine(tribunalref02_Euclid.calls _ ab _ _ aa z5 _ _ _ x6 z8 x9 z10 x11 _ (K.C 0 X1) (K.le 0 X1) (K.V 1 X1) A12.out).mono ?_
  rintro e W' ⟨v14,v15,rfl,ah,ai,hb⟩
  have K1:=K.addI 1 (fun _=>True) hb ah (fun _ h=>h.t)
  replace K:=K.moreI 2 (fun _=>True) K1 ai (fun _ h=>h.t)
  clear K1
  clear hb ah ai
  refine⟨_,rfl,hK.out _ _ (HS.out _ _ _ _ K) fun hH=>?_⟩
  refine norm_ (a':=?_) ?_ ?_
  rotate_left
  ·show Act.put _ (some 11) _=_
   simp only[Act.put,kss,i64_w,i32_w]
   rfl
  refine pure_ (i:=4) (N:=some 7) (v:=?_) (a':=?_) #[true,true,true,true,true,false,false,true,true,false,false] rfl rfl (any_of HT_.out Y0) (fun _ _ _ h=>h) (Or.inl ⟨F0,?_⟩) ?_ ?_
  rotate_left
  ·intro w'
   go_simp
   with_reducible rfl
  rotate_left
  ·simp only[Act.put,kss,i64_w,i32_w]
   rfl
  refine pure_ (i:=5) (N:=some 12) (v:=?_) (a':=?_) #[true,true,true,true,true,true,false,true,true,false,false] rfl rfl (any_of HT_.out Y0) (fun _ _ _ h=>h) (Or.inl ⟨F0,?_⟩) ?_ ?_
  rotate_left
  ·intro w'
   go_simp
   with_reducible rfl
  rotate_left
  ·simp only[Act.put,kss,i64_w,i32_w]
   rfl
  refine pure_ (i:=6) (N:=some 13) (v:=?_) (a':=?_) #[true,true,true,true,true,true,true,true,true,false,false] rfl rfl (any_of HT_.out Y0) (fun _ _ _ h=>h) (Or.inl ⟨F0,?_⟩) ?_ ?_
  rotate_left
  ·intro w'
   go_simp
   with_reducible rfl
  rotate_left
  ·simp only[Act.put,kss,i64_w,i32_w]
   rfl
  exact knq (J19 (.slice P48 x6.length c49,v14,v15,g16,g17) _ K)
 refine join_ (σ:=Value×Value×Value×Nat×Nat) 7 #[true,true,false,false,false,false,false,true,true,false,false] (fun s=>[(5,.pointer (some ⟨s.2.2.2.1,0,none⟩)),(6,.pointer (some ⟨s.2.2.2.2,0,none⟩))]) (fun s W=>Kp w (Bs++[(s.2.2.2.1,#[.bool false,.slice none 0 0],81),(s.2.2.2.2,#[.bool false,.slice none 0 0],81)]) (Vs++[]) (Os++[]) W) ?_ (fun J23=>?_)
 ·rintro⟨v13,v14,v15,g16,g17⟩ W K
  try dsimp only at K
  have hH:=HS.out _ _ _ _ K
  refine norm_ (a':=?_) ?_ ?_
  rotate_left
  ·try simp only[putAll,Act.put,kss]
   rfl
  refine one_ (i:=2) (N:=some 10) #[true,true,true,false,false,false,false,true,true,false,false] rfl rfl (one_of HT_.out Y0) X0 (fun Kc hK=>?_)
  refine kgo Tryz.func79 #[.int .i64 a0] F0 rfl rfl ?_
  refine(tribunalref09_Power.calls _ a0 z5 x6 _ A7.out).mono ?_
  rintro e W' ⟨v13,rfl,aj,hb⟩
  replace K:=K.addFI 0 (fun _=>True) hb aj
  clear hb aj
  refine⟨_,rfl,hK.out _ _ (HS.out _ _ _ _ K) fun hH=>?_⟩
  exact knq (J22 (v13,v14,v15,g16,g17) _ K)
 refine join_ (σ:=Value×Value×Value×Nat×Nat) 7 #[true,true,true,false,false,false,false,false,true,false,false] (fun s=>[(10,.agg #[.bool z5,s.1]),(6,.pointer (some ⟨s.2.2.2.2,0,none⟩))]) (fun s W=>Kp w (Bs++[(s.2.2.2.2,#[.bool false,.slice none 0 0],81)]) (Vs++[⟨Kd.int .u16,127,s.1,x6,fun _=>True⟩]) (Os++[]) W) ?_ (fun J24=>?_)
 ·rintro⟨v13,v14,v15,g16,g17⟩ W K
  try dsimp only at K
  have hH:=HS.out _ _ _ _ K
  refine norm_ (a':=?_) ?_ ?_
  rotate_left
  ·try simp only[putAll,Act.put,kss]
   rfl
  refine two_ (i:=3) (j:=7) (Ni:=some 11) (Nj:=some 5) #[true,true,true,true,false,false,false,false,true,false,false] #[true,true,true,false,false,false,false,true,true,false,false] rfl rfl rfl rfl (two_of HT_.out Y0) X0 X0 (fun Kc hK=>?_) (fun Kc hK=>?_)
  ·obtain⟨P54,c55,e56⟩:=K.slice 1 X1
   subst e56
   refine kgo Tryz.func78 #[.agg #[.bool ab,.slice ac aa.length ad],.agg #[.bool z5,.slice P54 x6.length c55]] F0 rfl rfl ?_
   refine(tribunalref02_Euclid.calls _ ab _ _ aa z5 _ _ _ x6 z8 x9 z10 x11 _ (K.C 0 X1) (K.le 0 X1) (K.V 1 X1) A12.out).mono ?_
   rintro e W' ⟨v14,v15,rfl,ak,al,hb⟩
   have K1:=K.addI 1 (fun _=>True) hb ak (fun _ h=>h.t)
   replace K:=K.moreI 2 (fun _=>True) K1 al (fun _ h=>h.t)
   clear K1
   clear hb ak al
   refine⟨_,rfl,hK.out _ _ (HS.out _ _ _ _ K) fun hH=>?_⟩
   refine norm_ (a':=?_) ?_ ?_
   rotate_left
   ·show Act.put _ (some 11) _=_
    simp only[Act.put,kss,i64_w,i32_w]
    rfl
   refine pure_ (i:=4) (N:=some 7) (v:=?_) (a':=?_) #[true,true,true,true,true,false,false,false,true,false,false] rfl rfl (any_of HT_.out Y0) (fun _ _ _ h=>h) (Or.inl ⟨F0,?_⟩) ?_ ?_
   rotate_left
   ·intro w'
    go_simp
    with_reducible rfl
   rotate_left
   ·simp only[Act.put,kss,i64_w,i32_w]
    rfl
   refine pure_ (i:=5) (N:=some 12) (v:=?_) (a':=?_) #[true,true,true,true,true,true,false,false,true,false,false] rfl rfl (any_of HT_.out Y0) (fun _ _ _ h=>h) (Or.inl ⟨F0,?_⟩) ?_ ?_
   rotate_left
   ·intro w'
    go_simp
    with_reducible rfl
   rotate_left
   ·simp only[Act.put,kss,i64_w,i32_w]
    rfl
   refine pure_ (i:=6) (N:=some 13) (v:=?_) (a':=?_) #[true,true,true,true,true,true,true,false,true,false,false] rfl rfl (any_of HT_.out Y0) (fun _ _ _ h=>h) (Or.inl ⟨F0,?_⟩) ?_ ?_
   rotate_left
   ·intro w'
    go_simp
    with_reducible rfl
   rotate_left
   ·simp only[Act.put,kss,i64_w,i32_w]
    rfl
   exact knq (J20 (.slice P54 x6.length c55,v14,v15,g16,g17) _ K)
  exact kbx #[.bool false,.slice none 0 0] 81 5 fun g16 hg W' hx hb=>hK.out _ _ (HS.out _ _ _ _ (K.boxI 0 (Nat.le_of_ble_eq_true rfl) hg hx hb)) fun _=>knq (J22 (v13,v14,v15,g16,g17) _ (K.boxI 0 (Nat.le_of_ble_eq_true rfl) hg hx hb))
 refine join_ (σ:=Value×Value×Value×Nat×Nat) 7 #[true,true,true,false,false,false,false,true,false,false,false] (fun s=>[(10,.agg #[.bool z5,s.1]),(5,.pointer (some ⟨s.2.2.2.1,0,none⟩))]) (fun s W=>Kp w (Bs++[(s.2.2.2.1,#[.bool false,.slice none 0 0],81)]) (Vs++[⟨Kd.int .u16,127,s.1,x6,fun _=>True⟩]) (Os++[]) W) ?_ (fun J25=>?_)
 ·rintro⟨v13,v14,v15,g16,g17⟩ W K
  try dsimp only at K
  have hH:=HS.out _ _ _ _ K
  refine norm_ (a':=?_) ?_ ?_
  rotate_left
  ·try simp only[putAll,Act.put,kss]
   rfl
  refine two_ (i:=3) (j:=8) (Ni:=some 11) (Nj:=some 6) #[true,true,true,true,false,false,false,true,false,false,false] #[true,true,true,false,false,false,false,true,true,false,false] rfl rfl rfl rfl (two_of HT_.out Y0) X0 X0 (fun Kc hK=>?_) (fun Kc hK=>?_)
  ·obtain⟨P59,c60,e61⟩:=K.slice 1 X1
   subst e61
   refine kgo Tryz.func78 #[.agg #[.bool ab,.slice ac aa.length ad],.agg #[.bool z5,.slice P59 x6.length c60]] F0 rfl rfl ?_
   refine(tribunalref02_Euclid.calls _ ab _ _ aa z5 _ _ _ x6 z8 x9 z10 x11 _ (K.C 0 X1) (K.le 0 X1) (K.V 1 X1) A12.out).mono ?_
   rintro e W' ⟨v14,v15,rfl,am,an,hb⟩
   have K1:=K.addI 1 (fun _=>True) hb am (fun _ h=>h.t)
   replace K:=K.moreI 2 (fun _=>True) K1 an (fun _ h=>h.t)
   clear K1
   clear hb am an
   refine⟨_,rfl,hK.out _ _ (HS.out _ _ _ _ K) fun hH=>?_⟩
   refine norm_ (a':=?_) ?_ ?_
   rotate_left
   ·show Act.put _ (some 11) _=_
    simp only[Act.put,kss,i64_w,i32_w]
    rfl
   refine pure_ (i:=4) (N:=some 7) (v:=?_) (a':=?_) #[true,true,true,true,true,false,false,true,false,false,false] rfl rfl (any_of HT_.out Y0) (fun _ _ _ h=>h) (Or.inl ⟨F0,?_⟩) ?_ ?_
   rotate_left
   ·intro w'
    go_simp
    with_reducible rfl
   rotate_left
   ·simp only[Act.put,kss,i64_w,i32_w]
    rfl
   refine pure_ (i:=5) (N:=some 12) (v:=?_) (a':=?_) #[true,true,true,true,true,true,false,true,false,false,false] rfl rfl (any_of HT_.out Y0) (fun _ _ _ h=>h) (Or.inl ⟨F0,?_⟩) ?_ ?_
   rotate_left
   ·intro w'
    go_simp
    with_reducible rfl
   rotate_left
   ·simp only[Act.put,kss,i64_w,i32_w]
    rfl
   refine pure_ (i:=6) (N:=some 13) (v:=?_) (a':=?_) #[true,true,true,true,true,true,true,true,false,false,false] rfl rfl (any_of HT_.out Y0) (fun _ _ _ h=>h) (Or.inl ⟨F0,?_⟩) ?_ ?_
   rotate_left
   ·intro w'
    go_simp
    with_reducible rfl
   rotate_left
   ·simp only[Act.put,kss,i64_w,i32_w]
    rfl
   exact knq (J21 (.slice P59 x6.length c60,v14,v15,g16,g17) _ K)
  exact kbx #[.bool false,.slice none 0 0] 81 6 fun g17 hg W' hx hb=>hK.out _ _ (HS.out _ _ _ _ (K.boxI 1 (Nat.le_of_ble_eq_true rfl) hg hx hb)) fun _=>knq (J22 (v13,v14,v15,g16,g17) _ (K.boxI 1 (Nat.le_of_ble_eq_true rfl) hg hx hb))
 obtain⟨v13,v14,v15,g16,g17⟩:Value×Value×Value×Nat×Nat:=((.bool false),(.bool false),(.bool false),0,0)
 refine three_ (i:=2) (j:=7) (k:=8) (Ni:=some 10) (Nj:=some 5) (Nk:=some 6) #[true,true,true,false,false,false,false,false,false,false,false] #[true,true,false,false,false,false,false,true,false,false,false] #[true,true,false,false,false,false,false,false,true,false,false] rfl rfl rfl rfl rfl rfl (three_of HT_.out Y0) X0 X0 X0 (fun Kc hK=>?_) (fun Kc hK=>?_) (fun Kc hK=>?_)
 ·refine kgo Tryz.func79 #[.int .i64 a0] F0 rfl rfl ?_
  refine(tribunalref09_Power.calls _ a0 z5 x6 _ A7.out).mono ?_
  rintro e W' ⟨v13,rfl,ao,hb⟩
  replace K:=K.addFI 0 (fun _=>True) hb ao
  clear hb ao
  refine⟨_,rfl,hK.out _ _ (HS.out _ _ _ _ K) fun hH=>?_⟩
  clear hK Kc
  refine norm_ (a':=?_) ?_ ?_
  rotate_left
  ·show Act.put _ (some 10) _=_
   simp only[Act.put,kss,i64_w,i32_w]
   rfl
  refine three_ (i:=3) (j:=7) (k:=8) (Ni:=some 11) (Nj:=some 5) (Nk:=some 6) #[true,true,true,true,false,false,false,false,false,false,false] #[true,true,true,false,false,false,false,true,false,false,false] #[true,true,true,false,false,false,false,false,true,false,false] rfl rfl rfl rfl rfl rfl (three_of HT_.out Y0) X0 X0 X0 (fun Kc hK=>?_) (fun Kc hK=>?_) (fun Kc hK=>?_)
  ·obtain⟨P65,c66,e67⟩:=K.slice 1 X1
   subst e67
   refine kgo Tryz.func78 #[.agg #[.bool ab,.slice ac aa.length ad],.agg #[.bool z5,.slice P65 x6.length c66]] F0 rfl rfl ?_
   refine(tribunalref02_Euclid.calls _ ab _ _ aa z5 _ _ _ x6 z8 x9 z10 x11 _ (K.C 0 X1) (K.le 0 X1) (K.V 1 X1) A12.out).mono ?_
   rintro e W' ⟨v14,v15,rfl,ap,aq,hb⟩
   have K1:=K.addI 1 (fun _=>True) hb ap (fun _ h=>h.t)
   replace K:=K.moreI 2 (fun _=>True) K1 aq (fun _ h=>h.t)
   clear K1
   clear hb ap aq
   refine⟨_,rfl,hK.out _ _ (HS.out _ _ _ _ K) fun hH=>?_⟩
   refine norm_ (a':=?_) ?_ ?_
   rotate_left
   ·show Act.put _ (some 11) _=_
    simp only[Act.put,kss,i64_w,i32_w]
    rfl
   refine pure_ (i:=4) (N:=some 7) (v:=?_) (a':=?_) #[true,true,true,true,true,false,false,false,false,false,false] rfl rfl (any_of HT_.out Y0) (fun _ _ _ h=>h) (Or.inl ⟨F0,?_⟩) ?_ ?_
   rotate_left
   ·intro w'
    go_simp
    with_reducible rfl
   rotate_left
   ·simp only[Act.put,kss,i64_w,i32_w]
    rfl
   refine pure_ (i:=5) (N:=some 12) (v:=?_) (a':=?_) #[true,true,true,true,true,true,false,false,false,false,false] rfl rfl (any_of HT_.out Y0) (fun _ _ _ h=>h) (Or.inl ⟨F0,?_⟩) ?_ ?_
   rotate_left
   ·intro w'
    go_simp
    with_reducible rfl
   rotate_left
   ·simp only[Act.put,kss,i64_w,i32_w]
    rfl
   refine pure_ (i:=6) (N:=some 13) (v:=?_) (a':=?_) #[true,true,true,true,true,true,true,false,false,false,false] rfl rfl (any_of HT_.out Y0) (fun _ _ _ h=>h) (Or.inl ⟨F0,?_⟩) ?_ ?_
   rotate_left
   ·intro w'
    go_simp
    with_reducible rfl
   rotate_left
   ·simp only[Act.put,kss,i64_w,i32_w]
    rfl
   clear hK Kc
   refine two_ (i:=7) (j:=8) (Ni:=some 5) (Nj:=some 6) #[true,true,true,true,true,true,true,true,false,false,false] #[true,true,true,true,true,true,true,false,true,false,false] rfl rfl rfl rfl (two_of HT_.out Y0) X0 X0 (fun Kc hK=>?_) (fun Kc hK=>?_)
   ·exact kbx #[.bool false,.slice none 0 0] 81 5 fun g16 hg W' hx hb=>hK.out _ _ (HS.out _ _ _ _ (K.boxI 0 (Nat.le_of_ble_eq_true rfl) hg hx hb)) fun _=>knq (J21 (.slice P65 x6.length c66,v14,v15,g16,g17) _ (K.boxI 0 (Nat.le_of_ble_eq_true rfl) hg hx hb))
   exact kbx #[.bool false,.slice none 0 0] 81 6 fun g17 hg W' hx hb=>hK.out _ _ (HS.out _ _ _ _ (K.boxI 0 (Nat.le_of_ble_eq_true rfl) hg hx hb)) fun _=>knq (J20 (.slice P65 x6.length c66,v14,v15,g16,g17) _ (K.boxI 0 (Nat.le_of_ble_eq_true rfl) hg hx hb))
  ·exact kbx #[.bool false,.slice none 0 0] 81 5 fun g16 hg W' hx hb=>hK.out _ _ (HS.out _ _ _ _ (K.boxI 0 (Nat.le_of_ble_eq_true rfl) hg hx hb)) fun _=>knq (J25 (v13,v14,v15,g16,g17) _ (K.boxI 0 (Nat.le_of_ble_eq_true rfl) hg hx hb))
  exact kbx #[.bool false,.slice none 0 0] 81 6 fun g17 hg W' hx hb=>hK.out _ _ (HS.out _ _ _ _ (K.boxI 0 (Nat.le_of_ble_eq_true rfl) hg hx hb)) fun _=>knq (J24 (v13,v14,v15,g16,g17) _ (K.boxI 0 (Nat.le_of_ble_eq_true rfl) hg hx hb))
 ·refine kbx #[.bool false,.slice none 0 0] 81 5 fun g16 hg W' hx hb=>?_
  replace K:=K.boxI 0 (Nat.le_of_ble_eq_true rfl) hg hx hb
  clear hg hx hb
  refine hK.out _ _ (HS.out _ _ _ _ K) fun hH=>?_
  clear hK Kc
  refine norm_ (a':=?_) ?_ ?_
  rotate_left
  ·show Act.put _ (some 5) _=_
   simp only[Act.put,kss,i64_w,i32_w]
   rfl
  refine two_ (i:=2) (j:=8) (Ni:=some 10) (Nj:=some 6) #[true,true,true,false,false,false,false,true,false,false,false] #[true,true,false,false,false,false,false,true,true,false,false] rfl rfl rfl rfl (two_of HT_.out Y0) X0 X0 (fun Kc hK=>?_) (fun Kc hK=>?_)
  ·refine kgo Tryz.func79 #[.int .i64 a0] F0 rfl rfl ?_
   refine(tribunalref09_Power.calls _ a0 z5 x6 _ A7.out).mono ?_
   rintro e W' ⟨v13,rfl,ar,hb⟩
   replace K:=K.addFI 0 (fun _=>True) hb ar
   clear hb ar
   refine⟨_,rfl,hK.out _ _ (HS.out _ _ _ _ K) fun hH=>?_⟩
   exact knq (J25 (v13,v14,v15,g16,g17) _ K)
  exact kbx #[.bool false,.slice none 0 0] 81 6 fun g17 hg W' hx hb=>hK.out _ _ (HS.out _ _ _ _ (K.boxI 1 (Nat.le_of_ble_eq_true rfl) hg hx hb)) fun _=>knq (J23 (v13,v14,v15,g16,g17) _ (K.boxI 1 (Nat.le_of_ble_eq_true rfl) hg hx hb))
 refine kbx #[.bool false,.slice none 0 0] 81 6 fun g17 hg W' hx hb=>?_
 replace K:=K.boxI 0 (Nat.le_of_ble_eq_true rfl) hg hx hb
 clear hg hx hb
 refine hK.out _ _ (HS.out _ _ _ _ K) fun hH=>?_
 clear hK Kc
 refine norm_ (a':=?_) ?_ ?_
 rotate_left
 ·show Act.put _ (some 6) _=_
  simp only[Act.put,kss,i64_w,i32_w]
  rfl
 refine two_ (i:=2) (j:=7) (Ni:=some 10) (Nj:=some 5) #[true,true,true,false,false,false,false,false,true,false,false] #[true,true,false,false,false,false,false,true,true,false,false] rfl rfl rfl rfl (two_of HT_.out Y0) X0 X0 (fun Kc hK=>?_) (fun Kc hK=>?_)
 ·refine kgo Tryz.func79 #[.int .i64 a0] F0 rfl rfl ?_
  refine(tribunalref09_Power.calls _ a0 z5 x6 _ A7.out).mono ?_
  rintro e W' ⟨v13,rfl,au,hb⟩
  replace K:=K.addFI 0 (fun _=>True) hb au
  clear hb au
  refine⟨_,rfl,hK.out _ _ (HS.out _ _ _ _ K) fun hH=>?_⟩
  exact knq (J24 (v13,v14,v15,g16,g17) _ K)
 exact kbx #[.bool false,.slice none 0 0] 81 5 fun g16 hg W' hx hb=>hK.out _ _ (HS.out _ _ _ _ (K.boxI 0 (Nat.le_of_ble_eq_true rfl) hg hx hb)) fun _=>knq (J23 (v13,v14,v15,g16,g17) _ (K.boxI 0 (Nat.le_of_ble_eq_true rfl) hg hx hb))
def tribunalref09_From.j0:Nat→Int→Bool→Bool→List Int→Option (Int×List Int×Int)
 | 0,_,_,_,_=>none
 | k+1,x0,x11,x1230000,x1230001=>if x11=true then(some (0,([]:List Int),55)) else((tribunalref02_From.f k x1230000 x1230001).bind fun bt1231=>((tribunalref09_Mod.f k x0 bt1231.1 bt1231.2).bind fun bt1235=>(some (bt1235.1,bt1235.2,0))))
def tribunalref09_From.f (k:Nat) (a0:Int) (a1_0:Bool) (l1_1:List Int):Option (Int×List Int×Int):=if a0<1 then(tribunalref09_From.j0 k a0 true a1_0 l1_1) else(tribunalref09_From.j0 k a0 (decide (a0>4096)) a1_0 l1_1)
theorem tribunalref09_From.calls (k:Nat) (a0:Int) (ab:Bool) (ac:Option Addr) (ad:Nat) (aa:List Int) (r1:Int) (r2:List Int) (r3:Int) (w:World) (ae:Kd.C (Kd.int .u64) w ac aa.length aa) (af:aa.length≤ad) (h:tribunalref09_From.f k a0 ab aa=some (r1,r2,r3)) :
  Calls Tryz.prog 23 #[.int .i64 a0,.agg #[.bool ab,.slice ac aa.length ad]] w fun e w'=>∃v1_:Value,e=.returned (.tuple #[.agg #[.int .i64 r1,v1_],.int .i64 r3])∧Kd.R (Kd.int .u64) 48 w' w.heap.size (fun _=>True) v1_ r2∧Below w.heap.size w w':=by
 have aj:=Tryz.underlying28
 have ak:=Tryz.underlying43
 have K:=Kp.refl w
 replace K:=K.parV (Kd.V_mono (ok':=fun _=>True) (Kd.V_mk (e:=48) (base:=0) af (Kd.C_F (Kd.heap_int .u64) ae)) (fun _ h=>trivial))
 clear ae af
 try simp only[klv]at K
 rw[tribunalref09_From.f]at h
 by_cases c_0:a0<1
 ·rw[if_pos c_0]at h
  have ah:decide (a0<1)=true:=decide_eq_true c_0
  obtain⟨k,rfl⟩:∃j,k=j+1:=by
   cases k with
   | zero=>simp[tribunalref09_From.j0]at h
   | succ k=>exact⟨k,rfl⟩
  rw[tribunalref09_From.j0]at h
  rw[if_pos rfl]at h
  simp only[Option.some.injEq,Prod.mk.injEq]at h
  obtain⟨rfl,rfl,rfl⟩:=h
  go_enter Tryz.func23,Tryz.ntmps23
  go_wp2_with (first|((with_reducible refine gate_dst (N:=3) rfl ?_);refine kbe 3 #[.bool ab,.slice ac aa.length ad] 43 ?_;intro g1 hg W2 hx hb;replace K:=K.u.box hg hx hb;clear hg hx hb)|((with_reducible refine gate_dst (N:=4) rfl ?_);refine kbe 4 #[.int .i64 0,.slice none 0 0] 28 ?_;intro g3 hg W4 hx hb;replace K:=K.u.box hg hx hb;clear hg hx hb)|((with_reducible refine gate_store (t:=28) (p:=4) (v:=.tmp 12) rfl ?_);refine kst2 1 (.int .i64 0) (.slice none 0 0) K.u rfl ?q6 ?_;(case q6=>intro c0 c1 f0 f1;first|(go_simp;done)|(go_simp;rfl));clear K;intro W5 K;simp only[kls,klv]at K))
  refine bodyPost_ret (results_list (rs:=[.cell 4 28,.tmp 5]) rfl Z1 (.cell g3 28 #[.int .i64 0,.slice none 0 0] (0,0) _ rfl (K.u.heap 1 rfl) Tryz.underlying28 rfl Y0 (.tmp .nil))) rfl ?_
  exact⟨_,rfl,Kd.R_nil _ _ _ _ _,K.u.below⟩
 rw[if_neg c_0]at h
 have ah:decide (a0<1)=false:=decide_eq_false c_0
 obtain⟨k,rfl⟩:∃j,k=j+1:=by
  cases k with
  | zero=>simp[tribunalref09_From.j0]at h
  | succ k=>exact⟨k,rfl⟩
 rw[tribunalref09_From.j0]at h
 by_cases c_1:(decide (a0>4096))=true
 ·rw[if_pos c_1]at h
  have ai:a0>4096:=of_decide_eq_true c_1
  simp only[Option.some.injEq,Prod.mk.injEq]at h
  obtain⟨rfl,rfl,rfl⟩:=h
  go_enter Tryz.func23,Tryz.ntmps23
  go_wp2_with (first|((with_reducible refine gate_dst (N:=3) rfl ?_);refine kbe 3 #[.bool ab,.slice ac aa.length ad] 43 ?_;intro g1 hg W2 hx hb;replace K:=K.u.box hg hx hb;clear hg hx hb)|((with_reducible refine gate_dst (N:=4) rfl ?_);refine kbe 4 #[.int .i64 0,.slice none 0 0] 28 ?_;intro g3 hg W4 hx hb;replace K:=K.u.box hg hx hb;clear hg hx hb)|((with_reducible refine gate_store (t:=28) (p:=4) (v:=.tmp 12) rfl ?_);refine kst2 1 (.int .i64 0) (.slice none 0 0) K.u rfl ?q6 ?_;(case q6=>intro c0 c1 f0 f1;first|(go_simp;done)|(go_simp;rfl));clear K;intro W5 K;simp only[kls,klv]at K))
  refine bodyPost_ret (results_list (rs:=[.cell 4 28,.tmp 5]) rfl Z1 (.cell g3 28 #[.int .i64 0,.slice none 0 0] (0,0) _ rfl (K.u.heap 1 rfl) Tryz.underlying28 rfl Y0 (.tmp .nil))) rfl ?_
  exact⟨_,rfl,Kd.R_nil _ _ _ _ _,K.u.below⟩
 rw[if_neg c_1]at h
 replace c_1:=Bool.eq_false_iff.mpr c_1
 have ai:¬(a0>4096):=of_decide_eq_false c_1
 replace h:=bindA h
 obtain⟨⟨z5,x6⟩,A7,h⟩:=h
 dsimp only at h
 replace h:=bindA h
 obtain⟨⟨n14,x15⟩,A16,h⟩:=h
 dsimp only at h
 simp only[Option.some.injEq,Prod.mk.injEq]at h
 obtain⟨rfl,rfl,rfl⟩:=h
 go_enter Tryz.func23,Tryz.ntmps23
 go_wp2_with (first|((with_reducible refine gate_dst (N:=3) rfl ?_);refine kbe 3 #[.bool ab,.slice ac aa.length ad] 43 ?_;intro g1 hg W2 hx hb;replace K:=K.u.box hg hx hb;clear hg hx hb)|((with_reducible refine gate_dst (N:=4) rfl ?_);refine kbe 4 #[.int .i64 0,.slice none 0 0] 28 ?_;intro g3 hg W4 hx hb;replace K:=K.u.box hg hx hb;clear hg hx hb;obtain⟨ua0,ub0⟩:=K.cell2 0 rfl)|((with_reducible refine gate_dst (N:=15) rfl ?_);clear ua0 ub0;refine kgl (some 15) rfl rfl Tryz.func49 #[.agg #[.bool ab,.slice ac aa.length ad]] rfl ?_;refine(tribunalref02_From.calls _ ab _ _ aa z5 x6 _ (K.C 0 rfl) (K.le 0 rfl) A7.out).mono ?_;rintro e W10 ⟨v8,rfl,ho9,hb⟩;refine⟨_,rfl,?_⟩;replace K:=K.u.addF (fun _=>True) hb ho9;clear hb ho9;obtain⟨P11,c12,e13⟩:=K.slice 1 rfl;subst e13)|((with_reducible refine gate_dst (N:=16) rfl ?_);refine kgl (some 16) rfl rfl Tryz.func41 #[.int .i64 a0,.agg #[.bool z5,.slice P11 x6.length c12]] rfl ?_;refine(tribunalref09_Mod.calls _ a0 z5 _ _ x6 n14 x15 _ (K.C 1 rfl) (K.le 1 rfl) A16.out).mono ?_;rintro e W19 ⟨v17,rfl,ag,hb⟩;refine⟨_,rfl,?_⟩;replace K:=K.u.addRE hb ag;clear hb ag;obtain⟨P20,c21,e22⟩:=K.slice 2 rfl;subst e22)|((with_reducible refine gate_store (t:=28) (p:=4) (v:=.tmp 16) rfl ?_);refine kst2 1 (.int .i64 n14) (.slice P20 x15.length c21) K.u rfl ?q24 ?_;(case q24=>intro c0 c1 f0 f1;first|(go_simp;done)|(go_simp;rfl));clear K;intro W23 K;simp only[kls,klv]at K))
 refine bodyPost_ret (results_list (rs:=[.cell 4 28,.tmp 5]) rfl Z1 (.cell g3 28 #[.int .i64 n14,.slice P20 x15.length c21] (0,0) _ rfl (K.u.heap 1 rfl) Tryz.underlying28 rfl Y0 (.tmp .nil))) rfl ?_
 exact⟨_,rfl,K.u.R 0 rfl,K.u.below⟩
end Go.Proofs.YtncomlmhagaajaaGreat.PBo
namespace Go.Proofs.YtncomlmhagaajaaGreat.PBo
open Go.RowKit Go.Proofs.YtncomlmhagaajaaGreatW.PrintWords Go.Proofs.YtncomlmhagaajaaGreatW.PrintLast Go.Proofs.YtncomlmhagaajaaGreatW.PrintMore
open Go.Proofs.YtncomlmhagaajaaGreat.Mine
attribute [local go_sem] max2_int min2_int max_two min_two max_three min_three max_four min_four
def tribunalref09_Of.f (k:Nat) (a0:Int) (a1:Int):Option (Int×List Int×Int):=(tribunalref09_From.f k a0 false (([a1]:List Int))).bind fun bt1243=>(some (bt1243.1,bt1243.2.1,bt1243.2.2))
theorem tribunalref09_Of.calls (k:Nat) (a0:Int) (a1:Int) (r1:Int) (r2:List Int) (r3:Int) (w:World) (h:tribunalref09_Of.f k a0 a1=some (r1,r2,r3)) :
  Calls Tryz.prog 22 #[.int .i64 a0,.int .u64 a1] w fun e w'=>∃v1_:Value,e=.returned (.tuple #[.agg #[.int .i64 r1,v1_],.int .i64 r3])∧Kd.R (Kd.int .u64) 48 w' w.heap.size (fun _=>True) v1_ r2∧Below w.heap.size w w':=by
 have ay:=Tryz.underlying28
 have az:=Tryz.underlying43
 have HB:=Aside0.mk (Below.refl w.heap.size w)
 have H:((tribunalref09_From.f k a0 false (([a1]:List Int))).bind fun ab=>(some (ab.1,ab.2.1,ab.2.2)))=some (r1,r2,r3):=h
 clear h
 obtain⟨ah,ad⟩:∃y_:List Int,y_=(([a1]:List Int)):=⟨_,rfl⟩
 replace H:((tribunalref09_From.f k a0 false ah).bind fun ab=>(some (ab.1,ab.2.1,ab.2.2)))=some (r1,r2,r3):=by first|(rw[ad];with_reducible exact H)|(have H2_:=(Option.bind_some _ _).symm.trans H;rw[ad];with_reducible exact H2_)|(have H2_:=(Option.bind_some _ _).symm.trans H;with_reducible exact H2_)|with_reducible exact H|(rw[ad];exact H)|exact H
 have ai:=Aside0.mk ad
 clear ad
 replace H:=Option.bind_eq_some_iff.mp H
 obtain⟨⟨af,ag,ak⟩,A30,H⟩:=H
 replace H:(some (af,ag,ak))=some (r1,r2,r3):=H
 have A3:=Aside0.mk A30
 clear A30
 simp only[Option.some.injEq,Prod.mk.injEq]at H
 obtain⟨rfl,rfl,rfl⟩:=H
 go_enter Tryz.func22,Tryz.ntmps22
 go_wp2_with (first|((with_reducible refine gate_dst (N:=4) rfl ?_);refine kbe 4 #[.int .i64 0,.slice none 0 0] 28 ?_;intro ae hg w4 hbox hb;have aa:=Aside0.mk (hbox);have ap:=kbz hg HB;have al:=kbz hg HB;replace HB:=kbs HB hb;clear hb hbox hg)|((with_reducible refine gate_dst (N:=8) rfl ?_);refine Kd.R_lit (Kd.int .u64) _ 48 ?hg (N:=8) ?hd (xs:=([a1]:List Int)) (inner:=[.int .u64 a1]) (ok:=fun _=>True) (okp:=fun _=>True) ?hr ?hp (fun _ hk=>hk) trivial (Below.refl _ _) (Nat.le_refl _) Z1 ?_;(case hd=>rfl);(case hg=>rfl);(case hr=>first|(go_simp;done)|(go_simp;rfl));(case hp=>exact(Reps.one (show Kd.M (Kd.int .u64) _ _ _ a1 [.int .u64 a1] from rfl) (Reps.none _ _)));intro aw w5 ho6 hb hg_ hnew_;clear hg_ hnew_;(first|rw[←ai.out]at ho6|(simp only[Int.reduceToNat]at ho6;rw[←ai.out]at ho6));have ac:=Aside0.mk (Kd.R_lower ho6 (below_size (khu HB.out)));replace aa:=kbb aa hb;replace HB:=kbs HB hb;clear hb ho6;obtain⟨Ao7,co7,eo7⟩:=Kd.R_slice ac.out;subst eo7)|((with_reducible refine gate_callee (f:=23) rfl ?_);refine kgl (some 10) rfl rfl Tryz.func23 #[.int .i64 a0,.agg #[.bool false,.slice Ao7 ah.length co7]] rfl ?_;(with_reducible refine(tribunalref09_From.calls k a0 false _ _ ah af ag ak _ ?side1 ?side2 A3.out).mono ?_);(case side1=>repeat (first|exact(Kd.R_reads' ac.out).2.2|(with_reducible refine Kd.C_alloc ?_ _)|(with_reducible refine Kd.C_drewN ?_ _)|(with_reducible refine Kd.C_drew ?_)));(case side2=>exact(Kd.R_reads' ac.out).2.1);rintro e w8 ⟨ax,rfl,ho0,hb⟩;refine⟨_,rfl,?_⟩;have aj:=Aside0.mk (Kd.R_lower (Kd.R_new' ho0 (Kd.R_lt (kru ac.out))) (below_size (khu HB.out)));replace ac:=Aside0.mk (Kd.R_elder' (kru ac.out) (Kd.R_base ho0) hb);replace aa:=kbb aa hb;replace HB:=kbs HB hb;(try clear hb);(try clear hb2);(try clear hk);(try clear hi);(try clear ho0);have aq:w8.cell? ⟨ae,0,none⟩=some (.int .i64 0):=(blk_cell aa.out 0).trans rfl;have ar:w8.cell? ⟨ae,1,none⟩=some (.slice none 0 0):=(blk_cell aa.out 1).trans rfl;have au:=blk_frozen aa.out 0;have av:=blk_frozen aa.out 1;obtain⟨am,an,ao⟩:=Kd.R_slice aj.out;subst ao))
 refine bodyPost_ret (results_ct rfl _ _ ae 28 #[.int .i64 af,.slice am ag.length an] (0,0) _ rfl (kpu #[.int .i64 af,.slice none 0 0] 1 (kpu #[.int .i64 0,.slice none 0 0] 0 (kbu aa.out))) Tryz.underlying28 rfl Y0) rfl ?_
 exact⟨_,Y2,by(with_reducible repeat (first|apply Kd.R_alloc|apply Kd.R_drewN|apply Kd.R_drew));exact Kd.R_mono (Kd.R_far (p:=⟨ae,1,none⟩) (Kd.R_far (p:=⟨ae,0,none⟩) (Kd.R_types aj.out aa.out X0) (fun _ hk=>hk.2) (.int .i64 af)) (fun _ hk=>hk.2) (.slice am ag.length an)) (fun _ hk=>trivial),by repeat (first|(with_reducible first|exact HB.out|apply below_alloc|apply pw_below_drewN|apply below_drew1|refine below_set ?_ al.out)|exact HB.out)⟩
end Go.Proofs.YtncomlmhagaajaaGreat.PBo
namespace Go.Proofs.YtncomlmhagaajaaGreat.PBo
open Go.Proofs.YtncomlmhagaajaaGreat.Mine Go.RowKit Go.Proofs.YtncomlmhagaajaaGreatW.PrintWords Go.Proofs.YtncomlmhagaajaaGreatW.PrintLast Go.Proofs.YtncomlmhagaajaaGreatW.PrintMore
open Go.Proofs.YtncomlmhagaajaaGreat.Mine
attribute [local go_sem] max2_int min2_int max_two min_two max_three min_three max_four min_four
def bits_Unsigned.f (k:Nat) (a0_0:Int) (l0_1:List Int):Option (Bool×List Int×Int):=(bits_Right.f k a0_0 l0_1).bind fun t1257=>(if t1257=true then((bits_u.f k a0_0 l0_1).bind fun bt1258=>(some (bt1258.1,bt1258.2,0))) else(some (false,([]:List Int),90)))
theorem bits_Unsigned.calls (k:Nat) (ab:Int) (ac:Option Addr) (ad:Nat) (aa:List Int) (r1:Bool) (r2:List Int) (r3:Int) (w:World) (ae:Kd.C (Kd.int .u64) w ac aa.length aa) (af:aa.length≤ad) (h:bits_Unsigned.f k ab aa=some (r1,r2,r3)) :
  Calls Tryz.prog 24 #[.agg #[.int .i64 ab,.slice ac aa.length ad]] w fun e w'=>∃v1_:Value,e=.returned (.tuple #[.agg #[.bool r1,v1_],.int .i64 r3])∧Kd.R (Kd.int .u64) 48 w' w.heap.size (fun _=>True) v1_ r2∧Below w.heap.size w w':=by
 have ah:=Tryz.underlying28
 have ai:=Tryz.underlying43
 have K:=Kp.refl w
 replace K:=K.parV (Kd.V_mono (ok':=fun _=>True) (Kd.V_mk (e:=48) (base:=0) af (Kd.C_F (Kd.heap_int .u64) ae)) (fun _ h=>trivial))
 clear ae af
 try simp only[klv]at K
 rw[bits_Unsigned.f]at h
 replace h:=bindA h
 obtain⟨z5,A6,h⟩:=h
 by_cases c_0:z5=true
 ·subst c_0
  rw[if_pos rfl]at h
  replace h:=bindA h
  obtain⟨⟨z8,x9⟩,A10,h⟩:=h
  dsimp only at h
  simp only[Option.some.injEq,Prod.mk.injEq]at h
  obtain⟨rfl,rfl,rfl⟩:=h
  go_enter Tryz.func24,Tryz.ntmps24
  go_wp2_with (first|((with_reducible refine gate_dst (N:=1) rfl ?_);refine kbe 1 #[.int .i64 ab,.slice ac aa.length ad] 28 ?_;intro g1 hg W2 hx hb;replace K:=K.u.box hg hx hb;clear hg hx hb)|((with_reducible refine gate_dst (N:=2) rfl ?_);refine kbe 2 #[.bool false,.slice none 0 0] 43 ?_;intro g3 hg W4 hx hb;replace K:=K.u.box hg hx hb;clear hg hx hb;obtain⟨ua0,ub0⟩:=K.cell2 0 rfl)|((with_reducible refine gate_dst (N:=5) rfl ?_);clear ua0 ub0;refine kgl (some 5) rfl rfl Tryz.func29 #[.agg #[.int .i64 ab,.slice ac aa.length ad]] rfl ?_;refine(bits_Right.calls _ ab _ _ aa true _ (K.C 0 rfl) (K.le 0 rfl) A6.out).mono ?_;rintro e W7 ⟨rfl,hb⟩;refine⟨_,rfl,?_⟩;replace K:=K.u.up hb;clear hb;obtain⟨ua0,ub0⟩:=K.cell2 0 rfl)|((with_reducible refine gate_dst (N:=9) rfl ?_);clear ua0 ub0;refine kgl (some 9) rfl rfl Tryz.func43 #[.agg #[.int .i64 ab,.slice ac aa.length ad]] rfl ?_;refine(bits_u.calls _ ab _ _ aa z8 x9 _ (K.C 0 rfl) (K.le 0 rfl) A10.out).mono ?_;rintro e W13 ⟨v11,rfl,ag,hb⟩;refine⟨_,rfl,?_⟩;replace K:=K.u.addRE hb ag;clear hb ag;obtain⟨P14,c15,e16⟩:=K.slice 1 rfl;subst e16)|((with_reducible refine gate_store (t:=43) (p:=2) (v:=.tmp 9) rfl ?_);refine kst2 1 (.bool z8) (.slice P14 x9.length c15) K.u rfl ?q18 ?_;(case q18=>intro c0 c1 f0 f1;first|(go_simp;done)|(go_simp;rfl));clear K;intro W17 K;simp only[kls,klv]at K))
  refine bodyPost_ret (results_list (rs:=[.cell 2 43,.tmp 3]) rfl Z1 (.cell g3 43 #[.bool z8,.slice P14 x9.length c15] (0,0) _ rfl (K.u.heap 1 rfl) Tryz.underlying43 rfl Y0 (.tmp .nil))) rfl ?_
  exact⟨_,rfl,K.u.R 0 rfl,K.u.below⟩
 replace c_0:=Bool.eq_false_iff.mpr c_0
 subst c_0
 rw[if_neg X0]at h
 simp only[Option.some.injEq,Prod.mk.injEq]at h
 obtain⟨rfl,rfl,rfl⟩:=h
 go_enter Tryz.func24,Tryz.ntmps24
 go_wp2_with (first|((with_reducible refine gate_dst (N:=1) rfl ?_);refine kbe 1 #[.int .i64 ab,.slice ac aa.length ad] 28 ?_;intro g1 hg W2 hx hb;replace K:=K.u.box hg hx hb;clear hg hx hb)|((with_reducible refine gate_dst (N:=2) rfl ?_);refine kbe 2 #[.bool false,.slice none 0 0] 43 ?_;intro g3 hg W4 hx hb;replace K:=K.u.box hg hx hb;clear hg hx hb;obtain⟨ua0,ub0⟩:=K.cell2 0 rfl)|((with_reducible refine gate_dst (N:=5) rfl ?_);clear ua0 ub0;refine kgl (some 5) rfl rfl Tryz.func29 #[.agg #[.int .i64 ab,.slice ac aa.length ad]] rfl ?_;refine(bits_Right.calls _ ab _ _ aa false _ (K.C 0 rfl) (K.le 0 rfl) A6.out).mono ?_;rintro e W7 ⟨rfl,hb⟩;refine⟨_,rfl,?_⟩;replace K:=K.u.up hb;clear hb)|((with_reducible refine gate_store (t:=43) (p:=2) (v:=.tmp 7) rfl ?_);refine kst2 1 (.bool false) (.slice none 0 0) K.u rfl ?q9 ?_;(case q9=>intro c0 c1 f0 f1;first|(go_simp;done)|(go_simp;rfl));clear K;intro W8 K;simp only[kls,klv]at K))
 refine bodyPost_ret (results_list (rs:=[.cell 2 43,.tmp 3]) rfl Z1 (.cell g3 43 #[.bool false,.slice none 0 0] (0,0) _ rfl (K.u.heap 1 rfl) Tryz.underlying43 rfl Y0 (.tmp .nil))) rfl ?_
 exact⟨_,rfl,Kd.R_nil _ _ _ _ _,K.u.below⟩
end Go.Proofs.YtncomlmhagaajaaGreat.PBo
namespace Go.Proofs.YtncomlmhagaajaaGreat.PBo
open Go.RowKit Go.Proofs.YtncomlmhagaajaaGreatW.PrintWords Go.Proofs.YtncomlmhagaajaaGreatW.PrintLast Go.Proofs.YtncomlmhagaajaaGreatW.PrintMore
open Go.Proofs.YtncomlmhagaajaaGreat.Mine
attribute [local go_sem] max2_int min2_int max_two min_two max_three min_three max_four min_four
def tribunalref09_U.f (k:Nat) (a0_0:Int) (l0_1:List Int):Option (Bool×List Int):=(tribunalref02_From.f k false l0_1).bind fun bt954=>(some (bt954.1,bt954.2))
theorem tribunalref09_U.calls (k:Nat) (ad:Int) (ab:Option Addr) (ac:Nat) (aa:List Int) (r1:Bool) (r2:List Int) (w:World) (ae:Kd.C (Kd.int .u64) w ab aa.length aa) (af:aa.length≤ac) (h:tribunalref09_U.f k ad aa=some (r1,r2)) :
  Calls Tryz.prog 46 #[.agg #[.int .i64 ad,.slice ab aa.length ac]] w fun e w'=>∃v1_:Value,e=.returned (.agg #[.bool r1,v1_])∧Kd.V (Kd.int .u16) 127 w' w.heap.size (fun k_=>(w.heap.size≤k_)) v1_ r2∧Below w.heap.size w w':=by
 have ag:=Tryz.underlying28
 have ah:=Tryz.underlying43
 have ai:=Tryz.underlying81
 have K:=Kp.refl w
 replace K:=K.parV (Kd.V_mono (ok':=fun k=>k<w.heap.size) (Kd.V_mk (e:=48) (base:=0) af (Kd.C_F (Kd.heap_int .u64) ae)) (fun _ h=>h))
 clear ae af
 try simp only[klv]at K
 rw[tribunalref09_U.f]at h
 replace h:=bindA h
 obtain⟨⟨z5,x6⟩,A7,h⟩:=h
 dsimp only at h
 simp only[Option.some.injEq,Prod.mk.injEq]at h
 obtain⟨rfl,rfl⟩:=h
 go_enter Tryz.func46,Tryz.ntmps46
 go_wp2_with (first|(refine gd 1 rfl ?_;refine kbk 1 #[.int .i64 ad,.slice ab aa.length ac] 28 K.u ?_;clear K;intro g1 W2 K)|(refine gd 2 rfl ?_;refine kbk 2 #[.bool false,.slice none 0 0] 81 K.u ?_;clear K;intro g3 W4 K;obtain⟨ua0,ub0⟩:=K.cell2 0 rfl)|(refine gd 6 rfl ?_;clear ua0 ub0;refine kgl (some 6) rfl rfl Tryz.func49 #[.agg #[.bool false,.slice ab aa.length ac]] rfl ?_;refine(tribunalref02_From.calls _ false _ _ aa z5 x6 _ (K.C 0 rfl) (K.le 0 rfl) A7.out).mono ?_;rintro e W10 ⟨v8,rfl,ho9,hb⟩;refine⟨_,rfl,?_⟩;replace K:=K.u.addF (fun _=>False) hb ho9;clear hb ho9;obtain⟨P11,c12,e13⟩:=K.slice 1 rfl;subst e13)|(refine gs 81 2 6 rfl ?_;refine ks2 1 (.bool z5) (.slice P11 x6.length c12) K.u rfl ?_;clear K;intro W14 K;simp only[kls,klv]at K))
 refine bodyPost_ret (results_single rfl (.cell g3 81 #[.bool z5,.slice P11 x6.length c12] (0,0) _ rfl (K.u.heap 1 rfl) Tryz.underlying81 rfl Y0 .nil)) rfl ?_
 exact⟨_,rfl,K.u.hand 1 rfl (fun _ h=>h.elim (fun h=>h.elim) id),K.u.below⟩
end Go.Proofs.YtncomlmhagaajaaGreat.PBo
namespace Go.Proofs.YtncomlmhagaajaaGreat.PBo
open Go.Proofs.YtncomlmhagaajaaGreat.Mine Go.RowKit Go.Proofs.YtncomlmhagaajaaGreatW.PrintWords Go.Proofs.YtncomlmhagaajaaGreatW.PrintLast Go.Proofs.YtncomlmhagaajaaGreatW.PrintMore
open Go.Proofs.YtncomlmhagaajaaGreat.Mine
attribute [local go_sem] max2_int min2_int max_two min_two max_three min_three max_four min_four
def tribunalref09_Unsigned.f (k:Nat) (a0_0:Int) (l0_1:List Int):Option (Bool×List Int×Int):=(tribunalref09_Right.f k a0_0 l0_1).bind fun t1264=>(if t1264=true then((tribunalref09_U.f k a0_0 l0_1).bind fun bt1265=>((tribunalref02_To.f k bt1265.1 bt1265.2).bind fun bt1269=>(some (bt1269.1,bt1269.2,0)))) else(some (false,([]:List Int),90)))
theorem tribunalref09_Unsigned.calls (k:Nat) (ab:Int) (ac:Option Addr) (ad:Nat) (aa:List Int) (r1:Bool) (r2:List Int) (r3:Int) (w:World) (ae:Kd.C (Kd.int .u64) w ac aa.length aa) (af:aa.length≤ad) (h:tribunalref09_Unsigned.f k ab aa=some (r1,r2,r3)) :
  Calls Tryz.prog 25 #[.agg #[.int .i64 ab,.slice ac aa.length ad]] w fun e w'=>∃v1_:Value,e=.returned (.tuple #[.agg #[.bool r1,v1_],.int .i64 r3])∧Kd.R (Kd.int .u64) 48 w' w.heap.size (fun _=>True) v1_ r2∧Below w.heap.size w w':=by
 have ai:=Tryz.underlying28
 have aj:=Tryz.underlying43
 have K:=Kp.refl w
 replace K:=K.parV (Kd.V_mono (ok':=fun _=>True) (Kd.V_mk (e:=48) (base:=0) af (Kd.C_F (Kd.heap_int .u64) ae)) (fun _ h=>trivial))
 clear ae af
 try simp only[klv]at K
 rw[tribunalref09_Unsigned.f]at h
 replace h:=bindA h
 obtain⟨z5,A6,h⟩:=h
 by_cases c_0:z5=true
 ·subst c_0
  rw[if_pos rfl]at h
  replace h:=bindA h
  obtain⟨⟨z8,x9⟩,A10,h⟩:=h
  dsimp only at h
  replace h:=bindA h
  obtain⟨⟨z17,x18⟩,A19,h⟩:=h
  dsimp only at h
  simp only[Option.some.injEq,Prod.mk.injEq]at h
  obtain⟨rfl,rfl,rfl⟩:=h
  go_enter Tryz.func25,Tryz.ntmps25
  go_wp2_with (first|((with_reducible refine gate_dst (N:=1) rfl ?_);refine kbe 1 #[.int .i64 ab,.slice ac aa.length ad] 28 ?_;intro g1 hg W2 hx hb;replace K:=K.u.box hg hx hb;clear hg hx hb)|((with_reducible refine gate_dst (N:=2) rfl ?_);refine kbe 2 #[.bool false,.slice none 0 0] 43 ?_;intro g3 hg W4 hx hb;replace K:=K.u.box hg hx hb;clear hg hx hb;obtain⟨ua0,ub0⟩:=K.cell2 0 rfl)|((with_reducible refine gate_dst (N:=5) rfl ?_);clear ua0 ub0;refine kgl (some 5) rfl rfl Tryz.func30 #[.agg #[.int .i64 ab,.slice ac aa.length ad]] rfl ?_;refine(tribunalref09_Right.calls _ ab _ _ aa true _ (K.C 0 rfl) (K.le 0 rfl) A6.out).mono ?_;rintro e W7 ⟨rfl,hb⟩;refine⟨_,rfl,?_⟩;replace K:=K.u.up hb;clear hb;obtain⟨ua0,ub0⟩:=K.cell2 0 rfl)|((with_reducible refine gate_dst (N:=9) rfl ?_);clear ua0 ub0;refine kgl (some 9) rfl rfl Tryz.func46 #[.agg #[.int .i64 ab,.slice ac aa.length ad]] rfl ?_;refine(tribunalref09_U.calls _ ab _ _ aa z8 x9 _ (K.C 0 rfl) (K.le 0 rfl) A10.out).mono ?_;rintro e W13 ⟨v11,rfl,ag,hb⟩;refine⟨_,rfl,?_⟩;replace K:=K.u.addF (fun _=>True) hb ag;clear hb ag;obtain⟨P14,c15,e16⟩:=K.slice 1 rfl;subst e16)|((with_reducible refine gate_dst (N:=10) rfl ?_);refine kgl (some 10) rfl rfl Tryz.func50 #[.agg #[.bool z8,.slice P14 x9.length c15]] rfl ?_;refine(tribunalref02_To.calls _ z8 _ _ x9 z17 x18 _ (K.C 1 rfl) (K.le 1 rfl) A19.out).mono ?_;rintro e W22 ⟨v20,rfl,ah,hb⟩;refine⟨_,rfl,?_⟩;replace K:=K.u.addRE hb ah;clear hb ah;obtain⟨P23,c24,e25⟩:=K.slice 2 rfl;subst e25)|((with_reducible refine gate_store (t:=43) (p:=2) (v:=.tmp 10) rfl ?_);refine kst2 1 (.bool z17) (.slice P23 x18.length c24) K.u rfl ?q27 ?_;(case q27=>intro c0 c1 f0 f1;first|(go_simp;done)|(go_simp;rfl));clear K;intro W26 K;simp only[kls,klv]at K))
  refine bodyPost_ret (results_list (rs:=[.cell 2 43,.tmp 3]) rfl Z1 (.cell g3 43 #[.bool z17,.slice P23 x18.length c24] (0,0) _ rfl (K.u.heap 1 rfl) Tryz.underlying43 rfl Y0 (.tmp .nil))) rfl ?_
  exact⟨_,rfl,K.u.R 0 rfl,K.u.below⟩
 replace c_0:=Bool.eq_false_iff.mpr c_0
 subst c_0
 rw[if_neg X0]at h
 simp only[Option.some.injEq,Prod.mk.injEq]at h
 obtain⟨rfl,rfl,rfl⟩:=h
 go_enter Tryz.func25,Tryz.ntmps25
 go_wp2_with (first|((with_reducible refine gate_dst (N:=1) rfl ?_);refine kbe 1 #[.int .i64 ab,.slice ac aa.length ad] 28 ?_;intro g1 hg W2 hx hb;replace K:=K.u.box hg hx hb;clear hg hx hb)|((with_reducible refine gate_dst (N:=2) rfl ?_);refine kbe 2 #[.bool false,.slice none 0 0] 43 ?_;intro g3 hg W4 hx hb;replace K:=K.u.box hg hx hb;clear hg hx hb;obtain⟨ua0,ub0⟩:=K.cell2 0 rfl)|((with_reducible refine gate_dst (N:=5) rfl ?_);clear ua0 ub0;refine kgl (some 5) rfl rfl Tryz.func30 #[.agg #[.int .i64 ab,.slice ac aa.length ad]] rfl ?_;refine(tribunalref09_Right.calls _ ab _ _ aa false _ (K.C 0 rfl) (K.le 0 rfl) A6.out).mono ?_;rintro e W7 ⟨rfl,hb⟩;refine⟨_,rfl,?_⟩;replace K:=K.u.up hb;clear hb)|((with_reducible refine gate_store (t:=43) (p:=2) (v:=.tmp 7) rfl ?_);refine kst2 1 (.bool false) (.slice none 0 0) K.u rfl ?q9 ?_;(case q9=>intro c0 c1 f0 f1;first|(go_simp;done)|(go_simp;rfl));clear K;intro W8 K;simp only[kls,klv]at K))
 refine bodyPost_ret (results_list (rs:=[.cell 2 43,.tmp 3]) rfl Z1 (.cell g3 43 #[.bool false,.slice none 0 0] (0,0) _ rfl (K.u.heap 1 rfl) Tryz.underlying43 rfl Y0 (.tmp .nil))) rfl ?_
 exact⟨_,rfl,Kd.R_nil _ _ _ _ _,K.u.below⟩
def bits_Signed.f (k:Nat) (a0_0:Int) (l0_1:List Int):Option (Bool×List Int×Int):=(bits_Right.f k a0_0 l0_1).bind fun t1275=>(if t1275=true then((bits_s.f k a0_0 l0_1).bind fun bt1276=>(some (bt1276.1,bt1276.2,0))) else(some (false,([]:List Int),90)))
theorem bits_Signed.calls (k:Nat) (ab:Int) (ac:Option Addr) (ad:Nat) (aa:List Int) (r1:Bool) (r2:List Int) (r3:Int) (w:World) (ae:Kd.C (Kd.int .u64) w ac aa.length aa) (af:aa.length≤ad) (h:bits_Signed.f k ab aa=some (r1,r2,r3)) :
  Calls Tryz.prog 26 #[.agg #[.int .i64 ab,.slice ac aa.length ad]] w fun e w'=>∃v1_:Value,e=.returned (.tuple #[.agg #[.bool r1,v1_],.int .i64 r3])∧Kd.R (Kd.int .u64) 48 w' w.heap.size (fun _=>True) v1_ r2∧Below w.heap.size w w':=by
 have ah:=Tryz.underlying28
 have ai:=Tryz.underlying43
 have K:=Kp.refl w
 replace K:=K.parV (Kd.V_mono (ok':=fun _=>True) (Kd.V_mk (e:=48) (base:=0) af (Kd.C_F (Kd.heap_int .u64) ae)) (fun _ h=>trivial))
 clear ae af
 try simp only[klv]at K
 rw[bits_Signed.f]at h
 replace h:=bindA h
 obtain⟨z5,A6,h⟩:=h
 by_cases c_0:z5=true
 ·subst c_0
  rw[if_pos rfl]at h
  replace h:=bindA h
  obtain⟨⟨z8,x9⟩,A10,h⟩:=h
  dsimp only at h
  simp only[Option.some.injEq,Prod.mk.injEq]at h
  obtain⟨rfl,rfl,rfl⟩:=h
  go_enter Tryz.func26,Tryz.ntmps26
  go_wp2_with (first|((with_reducible refine gate_dst (N:=1) rfl ?_);refine kbe 1 #[.int .i64 ab,.slice ac aa.length ad] 28 ?_;intro g1 hg W2 hx hb;replace K:=K.u.box hg hx hb;clear hg hx hb)|((with_reducible refine gate_dst (N:=2) rfl ?_);refine kbe 2 #[.bool false,.slice none 0 0] 43 ?_;intro g3 hg W4 hx hb;replace K:=K.u.box hg hx hb;clear hg hx hb;obtain⟨ua0,ub0⟩:=K.cell2 0 rfl)|((with_reducible refine gate_dst (N:=5) rfl ?_);clear ua0 ub0;refine kgl (some 5) rfl rfl Tryz.func29 #[.agg #[.int .i64 ab,.slice ac aa.length ad]] rfl ?_;refine(bits_Right.calls _ ab _ _ aa true _ (K.C 0 rfl) (K.le 0 rfl) A6.out).mono ?_;rintro e W7 ⟨rfl,hb⟩;refine⟨_,rfl,?_⟩;replace K:=K.u.up hb;clear hb;obtain⟨ua0,ub0⟩:=K.cell2 0 rfl)|((with_reducible refine gate_dst (N:=9) rfl ?_);clear ua0 ub0;refine kgl (some 9) rfl rfl Tryz.func44 #[.agg #[.int .i64 ab,.slice ac aa.length ad]] rfl ?_;refine(bits_s.calls _ ab _ _ aa z8 x9 _ (K.C 0 rfl) (K.le 0 rfl) A10.out).mono ?_;rintro e W13 ⟨v11,rfl,ag,hb⟩;refine⟨_,rfl,?_⟩;replace K:=K.u.addRE hb ag;clear hb ag;obtain⟨P14,c15,e16⟩:=K.slice 1 rfl;subst e16)|((with_reducible refine gate_store (t:=43) (p:=2) (v:=.tmp 9) rfl ?_);refine kst2 1 (.bool z8) (.slice P14 x9.length c15) K.u rfl ?q18 ?_;(case q18=>intro c0 c1 f0 f1;first|(go_simp;done)|(go_simp;rfl));clear K;intro W17 K;simp only[kls,klv]at K))
  refine bodyPost_ret (results_list (rs:=[.cell 2 43,.tmp 3]) rfl Z1 (.cell g3 43 #[.bool z8,.slice P14 x9.length c15] (0,0) _ rfl (K.u.heap 1 rfl) Tryz.underlying43 rfl Y0 (.tmp .nil))) rfl ?_
  exact⟨_,rfl,K.u.R 0 rfl,K.u.below⟩
 replace c_0:=Bool.eq_false_iff.mpr c_0
 subst c_0
 rw[if_neg X0]at h
 simp only[Option.some.injEq,Prod.mk.injEq]at h
 obtain⟨rfl,rfl,rfl⟩:=h
 go_enter Tryz.func26,Tryz.ntmps26
 go_wp2_with (first|((with_reducible refine gate_dst (N:=1) rfl ?_);refine kbe 1 #[.int .i64 ab,.slice ac aa.length ad] 28 ?_;intro g1 hg W2 hx hb;replace K:=K.u.box hg hx hb;clear hg hx hb)|((with_reducible refine gate_dst (N:=2) rfl ?_);refine kbe 2 #[.bool false,.slice none 0 0] 43 ?_;intro g3 hg W4 hx hb;replace K:=K.u.box hg hx hb;clear hg hx hb;obtain⟨ua0,ub0⟩:=K.cell2 0 rfl)|((with_reducible refine gate_dst (N:=5) rfl ?_);clear ua0 ub0;refine kgl (some 5) rfl rfl Tryz.func29 #[.agg #[.int .i64 ab,.slice ac aa.length ad]] rfl ?_;refine(bits_Right.calls _ ab _ _ aa false _ (K.C 0 rfl) (K.le 0 rfl) A6.out).mono ?_;rintro e W7 ⟨rfl,hb⟩;refine⟨_,rfl,?_⟩;replace K:=K.u.up hb;clear hb)|((with_reducible refine gate_store (t:=43) (p:=2) (v:=.tmp 7) rfl ?_);refine kst2 1 (.bool false) (.slice none 0 0) K.u rfl ?q9 ?_;(case q9=>intro c0 c1 f0 f1;first|(go_simp;done)|(go_simp;rfl));clear K;intro W8 K;simp only[kls,klv]at K))
 refine bodyPost_ret (results_list (rs:=[.cell 2 43,.tmp 3]) rfl Z1 (.cell g3 43 #[.bool false,.slice none 0 0] (0,0) _ rfl (K.u.heap 1 rfl) Tryz.underlying43 rfl Y0 (.tmp .nil))) rfl ?_
 exact⟨_,rfl,Kd.R_nil _ _ _ _ _,K.u.below⟩
end Go.Proofs.YtncomlmhagaajaaGreat.PBo
namespace Go.Proofs.YtncomlmhagaajaaGreat.PBo
open Go.RowKit Go.Proofs.YtncomlmhagaajaaGreatW.PrintWords Go.Proofs.YtncomlmhagaajaaGreatW.PrintLast Go.Proofs.YtncomlmhagaajaaGreatW.PrintMore
open Go.Proofs.YtncomlmhagaajaaGreat.Mine
attribute [local go_sem] max2_int min2_int max_two min_two max_three min_three max_four min_four
def tribunalref09_bit.f (a0_0:Int) (l0_1:List Int) (a1:Int):Option (Bool):=if(wrap64 (Int.tdiv a1 64))<(l0_1.length:Int) then(if 0≤(wrap64 (Int.tdiv a1 64)) then(if 0≤(IntKind.u64.wrap (Int.tmod a1 64)) then(some ((Go.bits .and .u64 (shr .u64 (rd l0_1 (wrap64 (Int.tdiv a1 64))) (IntKind.u64.wrap (Int.tmod a1 64))) 1)==1)) else(none)) else(none)) else(some false)
theorem tribunalref09_bit.calls (ad:Int) (ae:Option Addr) (af:Nat) (aa:List Int) (a1:Int) (r:Bool) (w:World) (an:Kd.C (Kd.int .u64) w ae aa.length aa) (ao:aa.length≤af) (h:tribunalref09_bit.f ad aa a1=some r) :
  Calls Tryz.prog 38 #[.agg #[.int .i64 ad,.slice ae aa.length af],.int .i64 a1] w fun e w'=>e=.returned (.bool r)∧Below w.heap.size w w':=by
 have aH:=Tryz.underlying28
 have aq:=Aside0.mk an
 have aD:=Aside0.mk ao
 clear an ao
 have HB:=Aside0.mk (Below.refl w.heap.size w)
 have H:(if(wrap64 (Int.tdiv a1 64))<(aa.length:Int) then(if 0≤(wrap64 (Int.tdiv a1 64)) then(if 0≤(IntKind.u64.wrap (Int.tmod a1 64)) then(some ((Go.bits .and .u64 (shr .u64 (rd aa (wrap64 (Int.tdiv a1 64))) (IntKind.u64.wrap (Int.tmod a1 64))) 1)==1)) else(none)) else(none)) else(some false))=some r:=h
 clear h
 by_cases c3:(wrap64 (Int.tdiv a1 64))<(aa.length:Int)
 ·rw[if_pos c3]at H
  have ap:decide ((wrap64 (Int.tdiv a1 64))<(aa.length:Int))=true:=decide_eq_true c3
  clear c3
  obtain⟨ji4,ah⟩:∃j_:Int,(wrap64 (Int.tdiv a1 64))=j_:=⟨_,rfl⟩
  replace H:(if 0≤(ji4) then(if 0≤(IntKind.u64.wrap (Int.tmod a1 64)) then(some ((Go.bits .and .u64 (shr .u64 (rd aa (ji4)) (IntKind.u64.wrap (Int.tmod a1 64))) 1)==1)) else(none)) else(none))=some r:=by first|(rw[ah]at H;exact H)|(simp only[ah]at H ⊢;exact H)
  (try rw[ah]at ap)
  have aE:(IntKind.i64.wrap (Int.tdiv a1 64))=ji4:=(i64_w _).trans ah
  by_cases c5:0≤(ji4)
  ·rw[if_pos c5]at H
   have aI:decide (0≤(ji4))=true:=decide_eq_true c5
   clear c5
   obtain⟨ji6,ak⟩:∃j_:Int,(IntKind.u64.wrap (Int.tmod a1 64))=j_:=⟨_,rfl⟩
   replace H:(if 0≤(ji6) then(some ((Go.bits .and .u64 (shr .u64 (rd aa (ji4)) (ji6)) 1)==1)) else(none))=some r:=by first|(rw[ak]at H;exact H)|(simp only[ak]at H ⊢;exact H)
   by_cases c7:0≤(ji6)
   ·rw[if_pos c7]at H
    have aJ:=eq_true c7
    have aK:decide (0≤(ji6))=true:=decide_eq_true c7
    clear c7
    obtain⟨ji8,ai⟩:∃j_:Int,(shr .u64 (rd aa (ji4)) (ji6))=j_:=⟨_,rfl⟩
    replace H:(some ((Go.bits .and .u64 (ji8) 1)==1))=some r:=by first|(rw[ai]at H;exact H)|(simp only[ai]at H ⊢;exact H)
    have hji8_:((rd aa (ji4))/2^min (ji6).toNat 64)=ji8:=ai
    have aF:(ji6)≤64→((rd aa (ji4))/2^(ji6).toNat)=ji8:=shr_small ai
    obtain rfl:=Option.some.inj H
    go_enter Tryz.func38,Tryz.ntmps38
    go_wp2_with (first|(with_reducible refine gd 2 rfl ?_;refine kbe 2 #[.int .i64 ad,.slice ae aa.length af] 28 ?_;intro ac hg w9 hbox hb;have ab:=Aside0.mk (hbox);have ar:=kbz hg HB;have aj:=kbz hg HB;replace HB:=kbs HB hb;clear hb hbox hg;have av:w9.cell? ⟨ac,0,none⟩=some (.int .i64 ad):=(blk_cell ab.out 0).trans rfl;have aw:w9.cell? ⟨ac,1,none⟩=some (.slice ae aa.length af):=(blk_cell ab.out 1).trans rfl;have ax:=blk_frozen ab.out 0;have ay:=blk_frozen ab.out 1;have al:0≤((ji4):Int):=of_decide_eq_true ‹_›;have am:(ji4)<(aa.length:Int):=of_decide_eq_true ‹_›;obtain⟨aG,au,ag⟩:=Kd.at_int aq.out (ji4) al am;cases au;replace ag:=(HB.out.cell (World.block_lt_of_cell? w _ ag)).trans ag;replace al:=eq_true al;replace am:=eq_true am))
    go_ret
    exact⟨by first|rfl|(simp[errW_none,errW_some]<;>rfl)|(simp only[←ah,←ak,←ai];first|rfl|(simp[errW_none,errW_some]<;>rfl))|(simp[*,errW_none,errW_some]<;>rfl),by repeat (first|(with_reducible first|exact HB.out|apply below_alloc|apply pw_below_drewN|apply below_drew1|refine below_set ?_ aj.out)|exact HB.out)⟩
   rw[if_neg c7]at H
   exact absurd H Z1
  rw[if_neg c5]at H
  exact absurd H Z1
 rw[if_neg c3]at H
 have ap:decide ((wrap64 (Int.tdiv a1 64))<(aa.length:Int))=false:=decide_eq_false c3
 clear c3
 obtain rfl:=Option.some.inj H
 go_enter Tryz.func38,Tryz.ntmps38
 go_wp2_with (first|(with_reducible refine gd 2 rfl ?_;refine kbe 2 #[.int .i64 ad,.slice ae aa.length af] 28 ?_;intro ac hg w11 hbox hb;have ab:=Aside0.mk (hbox);have ar:=kbz hg HB;have aj:=kbz hg HB;replace HB:=kbs HB hb;clear hb hbox hg;have az:w11.cell? ⟨ac,0,none⟩=some (.int .i64 ad):=(blk_cell ab.out 0).trans rfl;have aA:w11.cell? ⟨ac,1,none⟩=some (.slice ae aa.length af):=(blk_cell ab.out 1).trans rfl;have aB:=blk_frozen ab.out 0;have aC:=blk_frozen ab.out 1))
 go_ret
 exact⟨D0,by repeat (first|(with_reducible first|exact HB.out|apply below_alloc|apply pw_below_drewN|apply below_drew1|refine below_set ?_ aj.out)|exact HB.out)⟩
def tribunalref09_S.f (k:Nat) (a0_0:Int) (l0_1:List Int):Option (Bool×List Int):=(tribunalref09_bit.f a0_0 l0_1 (wrap64 (a0_0-1))).bind fun t1034=>(if t1034=true then((tribunalref09_U.f k a0_0 l0_1).bind fun bt1039=>((tribunalref09_Power.f k a0_0).bind fun bt1043=>((tribunalref02_Minus.f k bt1043.1 bt1043.2).bind fun bt1047=>((tribunalref02_Plus.f k bt1039.1 bt1039.2 bt1047.1 bt1047.2).bind fun bt1051=>(some (bt1051.1,bt1051.2)))))) else((tribunalref09_U.f k a0_0 l0_1).bind fun bt1035=>(some (bt1035.1,bt1035.2))))
def tribunalref09_S.T3:Bool×List (List Nat×List Nat):=(true,[([],[]),([0],[0]),([],[]),([2],[2]),([3,1],[3]),([4,4],[4]),([1,5,5],[1,5]),([6,6,0,1,2,3,4,5,6],[6])])
def tribunalref09_S.B3:List Nat:=[0,1,0,4,15,31,63,127]
theorem tribunalref09_S.tab3:rtab .any (opsOf Tryz.f47 3)=tribunalref09_S.T3:=by kernel_rfl
theorem tribunalref09_S.bits3:waitsOk tribunalref09_S.T3.2 tribunalref09_S.B3=true:=by kernel_rfl
theorem tribunalref09_S.calls (k:Nat) (ad:Int) (ao:Option Addr) (ap:Nat) (af:List Int) (r1:Bool) (r2:List Int) (w:World) (aL:Kd.C (Kd.int .u64) w ao af.length af) (aM:af.length≤ap) (h:tribunalref09_S.f k ad af=some (r1,r2)) :
  Calls Tryz.prog 47 #[.agg #[.int .i64 ad,.slice ao af.length ap]] w fun e w'=>∃v1_:Value,e=.returned (.agg #[.bool r1,v1_])∧Kd.V (Kd.int .u16) 127 w' w.heap.size (fun k_=>(w.heap.size≤k_)) v1_ r2∧Below w.heap.size w w':=by
 have bP:=Tryz.underlying28
 have bQ:=Tryz.underlying81
 have ay:=Aside0.mk aL
 have az:=Aside0.mk aM
 clear aL aM
 have HB:=Aside0.mk (Below.refl w.heap.size w)
 have H:((tribunalref09_bit.f ad af (wrap64 (ad-1))).bind fun aA=>(if aA=true then((tribunalref09_U.f k ad af).bind fun am=>((tribunalref09_Power.f k ad).bind fun aj=>((tribunalref02_Minus.f k aj.1 aj.2).bind fun ai=>((tribunalref02_Plus.f k am.1 am.2 ai.1 ai.2).bind fun ag=>(some (ag.1,ag.2)))))) else((tribunalref09_U.f k ad af).bind fun an=>(some (an.1,an.2)))))=some (r1,r2):=h
 clear h
 replace H:=Option.bind_eq_some_iff.mp H
 obtain⟨aA,A20,H⟩:=H
 replace H:(if aA=true then((tribunalref09_U.f k ad af).bind fun am=>((tribunalref09_Power.f k ad).bind fun aj=>((tribunalref02_Minus.f k aj.1 aj.2).bind fun ai=>((tribunalref02_Plus.f k am.1 am.2 ai.1 ai.2).bind fun ag=>(some (ag.1,ag.2)))))) else((tribunalref09_U.f k ad af).bind fun an=>(some (an.1,an.2))))=some (r1,r2):=H
 have A2:=Aside0.mk A20
 clear A20
 by_cases c3:aA=true
 ·subst c3
  have H1:((tribunalref09_U.f k ad af).bind fun am=>((tribunalref09_Power.f k ad).bind fun aj=>((tribunalref02_Minus.f k aj.1 aj.2).bind fun ai=>((tribunalref02_Plus.f k am.1 am.2 ai.1 ai.2).bind fun ag=>(some (ag.1,ag.2))))))=some (r1,r2):=by rw[if_pos rfl]at H;exact H
  clear H
  have H:=H1
  clear H1
  replace H:=Option.bind_eq_some_iff.mp H
  obtain⟨⟨au,av⟩,A40,H⟩:=H
  replace H:((tribunalref09_Power.f k ad).bind fun aj=>((tribunalref02_Minus.f k aj.1 aj.2).bind fun ai=>((tribunalref02_Plus.f k au av ai.1 ai.2).bind fun ag=>(some (ag.1,ag.2)))))=some (r1,r2):=H
  have A4:=Aside0.mk A40
  clear A40
  replace H:=Option.bind_eq_some_iff.mp H
  obtain⟨⟨aB,aC⟩,A50,H⟩:=H
  replace H:((tribunalref02_Minus.f k aB aC).bind fun ai=>((tribunalref02_Plus.f k au av ai.1 ai.2).bind fun ag=>(some (ag.1,ag.2))))=some (r1,r2):=H
  have A5:=Aside0.mk A50
  clear A50
  replace H:=Option.bind_eq_some_iff.mp H
  obtain⟨⟨aD,aE⟩,A60,H⟩:=H
  replace H:((tribunalref02_Plus.f k au av aD aE).bind fun ag=>(some (ag.1,ag.2)))=some (r1,r2):=H
  have A6:=Aside0.mk A60
  clear A60
  replace H:=Option.bind_eq_some_iff.mp H
  obtain⟨⟨aw,aF⟩,A70,H⟩:=H
  replace H:(some (aw,aF))=some (r1,r2):=H
  have A7:=Aside0.mk A70
  clear A70
  simp only[Option.some.injEq,Prod.mk.injEq]at H
  obtain⟨rfl,rfl⟩:=H
  go_enter Tryz.func47,Tryz.ntmps47
  try go_wp2_with (first|(refine gd 1 rfl ?_;refine kbe 1 #[.int .i64 ad,.slice ao af.length ap] 28 ?_;intro ah hg w8 hbox hb;have aa:=Aside0.mk (hbox);have aN:=kbz hg HB;have aH:=kbz hg HB;replace HB:=kbs HB hb;clear hb hbox hg)|(refine gd 2 rfl ?_;refine kbe 2 #[.bool false,.slice none 0 0] 81 ?_;intro ac hg w9 hbox hb;have ab:=Aside0.mk (hbox);have aO:=kbz hg HB;have aI:=kbz hg HB;replace HB:=kbs HB hb;have ae:=knl hg aa;have ak:=kng hg aa;replace aa:=kbb aa hb;clear hb hbox hg;have bE:=ae.out;have bF:=ak.out;have bg:w9.cell? ⟨ah,0,none⟩=some (.int .i64 ad):=(blk_cell aa.out 0).trans rfl;have bh:w9.cell? ⟨ah,1,none⟩=some (.slice ao af.length ap):=(blk_cell aa.out 1).trans rfl;have bi:=blk_frozen aa.out 0;have bj:=blk_frozen aa.out 1)|((with_reducible refine gate_callee (f:=38) rfl ?_);refine kgl (some 7) rfl rfl Tryz.func38 #[.agg #[.int .i64 ad,.slice ao af.length ap],.int .i64 (wrap64 (ad-1))] rfl ?_;(with_reducible refine(tribunalref09_bit.calls ad _ _ af (wrap64 (ad-1)) true _ ?side1 ?side2 A2.out).mono ?_);(case side1=>repeat (first|exact(Kd.C_below ay.out HB.out)|(with_reducible refine Kd.C_alloc ?_ _)|(with_reducible refine Kd.C_drewN ?_ _)|(with_reducible refine Kd.C_drew ?_)));(case side2=>exact az.out);rintro e w12 ⟨rfl,hb⟩;refine⟨_,rfl,?_⟩;replace aa:=kbb aa hb;replace ab:=kbb ab hb;replace HB:=kbs HB hb;(try clear hb);(try clear hb2);(try clear hk);(try clear hi)))
  replace aa:=Aside0.mk (blk_drew aa.out);replace ab:=Aside0.mk (blk_drew ab.out);replace HB:=Aside0.mk (below_drew1 HB.out)
  refine start_ (n:=8) (S:=fun w'=>w'.cell? ⟨ah,0,none⟩=some (.int .i64 ad)∧w'.cell? ⟨ah,1,none⟩=some (.slice ao af.length ap)) (ds:=[]) (bm_ 8 0) Y0 rfl rfl ⟨(blk_cell aa.out 0).trans rfl,(blk_cell aa.out 1).trans rfl⟩ (fun hHeld=>?_);refine with_tabW tribunalref09_S.tab3 tribunalref09_S.bits3 (fun HT_ HW_=>?_)
  generalize w12.drew=w13 at aa ab HB hHeld ⊢
  refine pu_ 2 13 ?_ (bm_ 8 4) rfl rfl (any_of HT_.out Y0) (fun _ _ _ h=>h) F0 ?_ ?_ ?_ ?_
  rotate_left
  ·intro w'
   go_simp
   with_reducible rfl
  rotate_left
  ·simp only[Act.put,kss,i64_w,i32_w]
   rfl
  refine tk_ 0 11 ?_ (bm_ 8 5) rfl rfl (take_ofW HT_.out HW_.out Y0) (fun _ _ _ h=>h) F0 ?_ hHeld ?_ ?_ ?_
  rotate_left
  ·rintro w' ⟨s0,s1⟩
   go_simp
   with_reducible rfl
  rotate_left
  ·simp only[Act.put,kss,i64_w,i32_w]
   rfl
  refine tk_ 3 14 ?_ (bm_ 8 13) rfl rfl (take_ofW HT_.out HW_.out Y0) (fun _ _ _ h=>h) F0 ?_ hHeld ?_ ?_ ?_
  rotate_left
  ·rintro w' ⟨s0,s1⟩
   go_simp
   with_reducible rfl
  rotate_left
  ·simp only[Act.put,kss,i64_w,i32_w]
   rfl
  refine one_ (i:=1) (N:=some 12) (bm_ 8 15) rfl rfl (one_of HT_.out Y0) X0 (fun K hK=>?_)
  refine kgo Tryz.func46 #[.agg #[.int .i64 ad,.slice ao af.length ap]] F0 rfl rfl ?_
  with_reducible refine(tribunalref09_U.calls k ad _ _ af au av _ ?side1 ?side2 A4.out).mono ?_
  (case side1=>repeat (first|exact(Kd.C_below ay.out HB.out)|(with_reducible refine Kd.C_alloc ?_ _)|(with_reducible refine Kd.C_drewN ?_ _)|(with_reducible refine Kd.C_drew ?_)))
  (case side2=>exact az.out)
  rintro e w14 ⟨bG,rfl,ho0,hb⟩
  refine⟨_,rfl,?_⟩
  have al:=Aside0.mk (Kd.V_lower (Kd.V_mono (ok':=fun k_=>(w.heap.size≤k_)∧k_≠ah∧k_≠ac) ho0 (fun k_ hk_=>⟨(Nat.le_trans (below_size (khu HB.out)) hk_),(kfb aa hk_),(kfb ab hk_)⟩)) (below_size (khu HB.out)));replace aa:=kbb aa hb;replace ab:=kbb ab hb;replace HB:=kbs HB hb
  (try clear hb);(try clear hb2);(try clear hk);(try clear hi);(try clear ho0)
  refine hK.out _ _ ⟨(blk_cell aa.out 0).trans rfl,(blk_cell aa.out 1).trans rfl⟩ (fun hHeld=>?_)
  clear hK K
  refine norm_ (a':=?_) ?_ ?_
  rotate_left
  ·show Act.put _ (some 12) _=_
   simp only[Act.put,kss,i64_w,i32_w]
   rfl
  refine one_ (i:=4) (N:=some 15) (bm_ 8 31) rfl rfl (one_of HT_.out Y0) X0 (fun K hK=>?_)
  refine kgo Tryz.func79 #[.int .i64 ad] F0 rfl rfl ?_
  with_reducible refine(tribunalref09_Power.calls k ad aB aC _ A5.out).mono ?_
  rintro e w15 ⟨bH,rfl,ho0,hb⟩
  refine⟨_,rfl,?_⟩
  replace al:=kvb al hb;have aq:=Aside0.mk (Kd.V_lower (Kd.V_mono (ok':=fun k_=>(w.heap.size≤k_)∧k_≠ah∧k_≠ac) ho0 (fun k_ hk_=>⟨(Nat.le_trans (below_size (khu HB.out)) hk_),(kfb aa hk_),(kfb ab hk_)⟩)) (below_size (khu HB.out)));replace aa:=kbb aa hb;replace ab:=kbb ab hb;replace HB:=kbs HB hb
  (try clear hb);(try clear hb2);(try clear hk);(try clear hi);(try clear ho0)
  obtain⟨aY,aZ,aP⟩:=Kd.V_slice aq.out
  (first|subst aP|(injection aP with f1_ f2_ f3_;have f4_:=f1_.symm;have f5_:=f3_.symm;clear f1_ f2_ f3_;subst f4_;subst f5_))
  refine hK.out _ _ ⟨(blk_cell aa.out 0).trans rfl,(blk_cell aa.out 1).trans rfl⟩ (fun hHeld=>?_)
  clear hK K
  refine norm_ (a':=?_) ?_ ?_
  rotate_left
  ·show Act.put _ (some 15) _=_
   simp only[Act.put,kss,i64_w,i32_w]
   rfl
  refine one_ (i:=5) (N:=some 16) (bm_ 8 63) rfl rfl (one_of HT_.out Y0) X0 (fun K hK=>?_)
  refine kgo Tryz.func80 #[.agg #[.bool aB,.slice aY aC.length aZ]] F0 rfl rfl ?_
  with_reducible refine(tribunalref02_Minus.calls k aB (fun k_=>((w.heap.size≤k_)∧(k_≠ah∧k_≠ac))) _ _ aC aD aE _ ?side1 A6.out).mono ?_
  (case side1=>exact aq.out)
  rintro e w17 ⟨bI,rfl,ho0,hb⟩
  refine⟨_,rfl,?_⟩
  replace al:=kvb al hb;replace aq:=kvb aq hb;have ar:=Aside0.mk (Kd.V_lower (Kd.V_mono (ok':=fun k_=>(w.heap.size≤k_)∧k_≠ah∧k_≠ac) ho0 (fun k_ hk_=>⟨Or.elim hk_ (fun hs_=>hs_.1) (fun hn_=>(Nat.le_trans (below_size (khu HB.out)) hn_)),Or.elim hk_ (fun hs_=>hs_.2.1) (kfb aa),Or.elim hk_ (fun hs_=>hs_.2.2) (kfb ab)⟩)) (below_size (khu HB.out)));replace aa:=kbb aa hb;replace ab:=kbb ab hb;replace HB:=kbs HB hb
  (try clear hb);(try clear hb2);(try clear hk);(try clear hi);(try clear ho0)
  obtain⟨bb,bc,aQ⟩:=Kd.V_slice al.out
  (first|subst aQ|(injection aQ with f1_ f2_ f3_;have f4_:=f1_.symm;have f5_:=f3_.symm;clear f1_ f2_ f3_;subst f4_;subst f5_))
  obtain⟨bd,be,aR⟩:=Kd.V_slice ar.out
  (first|subst aR|(injection aR with f1_ f2_ f3_;have f4_:=f1_.symm;have f5_:=f3_.symm;clear f1_ f2_ f3_;subst f4_;subst f5_))
  refine hK.out _ _ ⟨(blk_cell aa.out 0).trans rfl,(blk_cell aa.out 1).trans rfl⟩ (fun hHeld=>?_)
  clear hK K
  refine norm_ (a':=?_) ?_ ?_
  rotate_left
  ·show Act.put _ (some 16) _=_
   simp only[Act.put,kss,i64_w,i32_w]
   rfl
  refine one_ (i:=6) (N:=some 17) (bm_ 8 127) rfl rfl (one_of HT_.out Y0) X0 (fun K hK=>?_)
  refine kgo Tryz.func82 #[.agg #[.bool au,.slice bb av.length bc],.agg #[.bool aD,.slice bd aE.length be]] F0 rfl rfl ?_
  with_reducible refine(tribunalref02_Plus.calls k au _ _ av aD _ _ aE aw aF _ ?side1 ?side2 ?side3 ?side4 A7.out).mono ?_
  (case side1=>repeat (first|exact(Kd.V_reads' al.out).2.2|(with_reducible refine Kd.C_alloc ?_ _)|(with_reducible refine Kd.C_drewN ?_ _)|(with_reducible refine Kd.C_drew ?_)))
  (case side2=>exact(Kd.V_reads' al.out).2.1)
  (case side3=>repeat (first|exact(Kd.V_reads' ar.out).2.2|(with_reducible refine Kd.C_alloc ?_ _)|(with_reducible refine Kd.C_drewN ?_ _)|(with_reducible refine Kd.C_drew ?_)))
  (case side4=>exact(Kd.V_reads' ar.out).2.1)
  rintro e w20 ⟨bJ,rfl,ho0,hb⟩
  refine⟨_,rfl,?_⟩
  replace al:=kvb al hb;replace aq:=kvb aq hb;replace ar:=kvb ar hb;have aJ:=Aside0.mk (Kd.V_lower (Kd.V_mono (ok':=fun k_=>(w.heap.size≤k_)∧k_≠ah∧k_≠ac) ho0 (fun k_ hk_=>⟨(Nat.le_trans (below_size (khu HB.out)) hk_),(kfb aa hk_),(kfb ab hk_)⟩)) (below_size (khu HB.out)));replace aa:=kbb aa hb;replace ab:=kbb ab hb;replace HB:=kbs HB hb
  (try clear hb);(try clear hb2);(try clear hk);(try clear hi);(try clear ho0)
  obtain⟨aS,aT,aU⟩:=Kd.V_slice aJ.out
  (first|subst aU|(injection aU with f1_ f2_ f3_;have f4_:=f1_.symm;have f5_:=f3_.symm;clear f1_ f2_ f3_;subst f4_;subst f5_))
  refine hK.out _ _ ⟨(blk_cell aa.out 0).trans rfl,(blk_cell aa.out 1).trans rfl⟩ (fun hHeld=>?_)
  clear hK K
  refine norm_ (a':=?_) ?_ ?_
  rotate_left
  ·show Act.put _ (some 17) _=_
   simp only[Act.put,kss,i64_w,i32_w]
   rfl
  refine one_ (i:=7) (N:=none) (bm_ 8 255) rfl rfl (one_of HT_.out Y0) X0 (fun K hK=>?_)
  have bR:w20.cell? ⟨ac,0,none⟩=some (.bool false):=(blk_cell ab.out 0).trans rfl
  have bK:=blk_frozen ab.out 0
  have bk:=ae.out
  have bl:=ak.out
  have bS:w20.cell? ⟨ac,1,none⟩=some (.slice none 0 0):=(blk_cell ab.out 1).trans rfl
  have bL:=blk_frozen ab.out 1
  have bn:=ae.out
  have bo:=ak.out
  refine skip_ (w1:=?_) F0 rfl ?_ ?_
  rotate_left
  ·go_simp
   rfl
  refine hK.out _ _ ⟨((cell_far (p:=⟨ac,_,none⟩) ae.out _).trans (((cell_far (p:=⟨ac,_,none⟩) ae.out _).trans (hHeld.1)))),((cell_far (p:=⟨ac,_,none⟩) ae.out _).trans (((cell_far (p:=⟨ac,_,none⟩) ae.out _).trans (hHeld.2))))⟩ (fun hHeld=>?_)
  clear hK K
  refine done_ (done_of HT_.out Y0) ?_
  try go_wp2
  refine bodyPost_ret (results_cell_row rfl _ _ ac 81 #[.bool aw,.slice aS aF.length aT] (0,0) _ rfl (kpu #[.bool aw,.slice none 0 0] 1 (kpu #[.bool false,.slice none 0 0] 0 (kbu ab.out))) Tryz.underlying81 rfl Y0) rfl ?_
  exact⟨_,D0,by(with_reducible repeat (first|apply Kd.V_alloc|apply Kd.V_drewN|apply Kd.V_drew));exact Kd.V_mono (Kd.V_far (p:=⟨ac,1,none⟩) (Kd.V_far (p:=⟨ac,0,none⟩) (Kd.V_mono aJ.out (fun k_ hk=>(⟨hk,hk.2.2⟩:_∧k_≠ac))) (fun _ hk=>hk.2) (.bool aw)) (fun _ hk=>hk.2) (.slice aS aF.length aT)) (fun _ hk=>hk.1.1),by repeat (first|(with_reducible first|exact HB.out|apply below_alloc|apply pw_below_drewN|apply below_drew1|refine below_set ?_ aH.out|refine below_set ?_ aI.out)|exact HB.out)⟩
 replace c3:=Bool.eq_false_iff.mpr c3
 subst c3
 have H1:((tribunalref09_U.f k ad af).bind fun an=>(some (an.1,an.2)))=some (r1,r2):=by rw[if_neg (show ¬(false=true) by decide)]at H;exact H
 clear H
 have H:=H1
 clear H1
 replace H:=Option.bind_eq_some_iff.mp H
 obtain⟨⟨ax,aG⟩,aV,H⟩:=H
 replace H:(some (ax,aG))=some (r1,r2):=H
 have A24:=Aside0.mk aV
 clear aV
 simp only[Option.some.injEq,Prod.mk.injEq]at H
 obtain⟨rfl,rfl⟩:=H
 go_enter Tryz.func47,Tryz.ntmps47
 go_wp2_with (first|(refine gd 1 rfl ?_;refine kbe 1 #[.int .i64 ad,.slice ao af.length ap] 28 ?_;intro ah hg w25 hbox hb;have aa:=Aside0.mk (hbox);have aN:=kbz hg HB;have aH:=kbz hg HB;replace HB:=kbs HB hb;clear hb hbox hg)|(refine gd 2 rfl ?_;refine kbe 2 #[.bool false,.slice none 0 0] 81 ?_;intro ac hg w26 hbox hb;have ab:=Aside0.mk (hbox);have aO:=kbz hg HB;have aI:=kbz hg HB;replace HB:=kbs HB hb;have ae:=knl hg aa;have ak:=kng hg aa;replace aa:=kbb aa hb;clear hb hbox hg;have bM:=ae.out;have bN:=ak.out;have bp:w26.cell? ⟨ah,0,none⟩=some (.int .i64 ad):=(blk_cell aa.out 0).trans rfl;have bq:w26.cell? ⟨ah,1,none⟩=some (.slice ao af.length ap):=(blk_cell aa.out 1).trans rfl;have br:=blk_frozen aa.out 0;have bu:=blk_frozen aa.out 1)|((with_reducible refine gate_callee (f:=38) rfl ?_);refine kgl (some 7) rfl rfl Tryz.func38 #[.agg #[.int .i64 ad,.slice ao af.length ap],.int .i64 (wrap64 (ad-1))] rfl ?_;(with_reducible refine(tribunalref09_bit.calls ad _ _ af (wrap64 (ad-1)) false _ ?side1 ?side2 A2.out).mono ?_);(case side1=>repeat (first|exact(Kd.C_below ay.out HB.out)|(with_reducible refine Kd.C_alloc ?_ _)|(with_reducible refine Kd.C_drewN ?_ _)|(with_reducible refine Kd.C_drew ?_)));(case side2=>exact az.out);rintro e w29 ⟨rfl,hb⟩;refine⟨_,rfl,?_⟩;replace aa:=kbb aa hb;replace ab:=kbb ab hb;replace HB:=kbs HB hb;(try clear hb);(try clear hb2);(try clear hk);(try clear hi);have bv:w29.cell? ⟨ah,0,none⟩=some (.int .i64 ad):=(blk_cell aa.out 0).trans rfl;have bw:w29.cell? ⟨ah,1,none⟩=some (.slice ao af.length ap):=(blk_cell aa.out 1).trans rfl;have bx:=blk_frozen aa.out 0;have bz:=blk_frozen aa.out 1)|((with_reducible refine gate_callee (f:=46) rfl ?_);refine kgl (some 10) rfl rfl Tryz.func46 #[.agg #[.int .i64 ad,.slice ao af.length ap]] rfl ?_;(with_reducible refine(tribunalref09_U.calls k ad _ _ af ax aG _ ?side1 ?side2 A24.out).mono ?_);(case side1=>repeat (first|exact(Kd.C_below ay.out HB.out)|(with_reducible refine Kd.C_alloc ?_ _)|(with_reducible refine Kd.C_drewN ?_ _)|(with_reducible refine Kd.C_drew ?_)));(case side2=>exact az.out);rintro e w31 ⟨bO,rfl,ho0,hb⟩;refine⟨_,rfl,?_⟩;have aK:=Aside0.mk (Kd.V_lower (Kd.V_mono (ok':=fun k_=>(w.heap.size≤k_)∧k_≠ah∧k_≠ac) ho0 (fun k_ hk_=>⟨(Nat.le_trans (below_size (khu HB.out)) hk_),(kfb aa hk_),(kfb ab hk_)⟩)) (below_size (khu HB.out)));replace aa:=kbb aa hb;replace ab:=kbb ab hb;replace HB:=kbs HB hb;(try clear hb);(try clear hb2);(try clear hk);(try clear hi);(try clear ho0);have bA:w31.cell? ⟨ac,0,none⟩=some (.bool false):=(blk_cell ab.out 0).trans rfl;have bB:w31.cell? ⟨ac,1,none⟩=some (.slice none 0 0):=(blk_cell ab.out 1).trans rfl;have bC:=blk_frozen ab.out 0;have bD:=blk_frozen ab.out 1;obtain⟨aW,aX,bf⟩:=Kd.V_slice aK.out;subst bf))
 refine bodyPost_ret (results_cell_row rfl _ _ ac 81 #[.bool ax,.slice aW aG.length aX] (0,0) _ rfl (kpu #[.bool ax,.slice none 0 0] 1 (kpu #[.bool false,.slice none 0 0] 0 (kbu ab.out))) Tryz.underlying81 rfl Y0) rfl ?_
 exact⟨_,D0,by(with_reducible repeat (first|apply Kd.V_alloc|apply Kd.V_drewN|apply Kd.V_drew));exact Kd.V_mono (Kd.V_far (p:=⟨ac,1,none⟩) (Kd.V_far (p:=⟨ac,0,none⟩) (Kd.V_mono aK.out (fun k_ hk=>(⟨hk,hk.2.2⟩:_∧k_≠ac))) (fun _ hk=>hk.2) (.bool ax)) (fun _ hk=>hk.2) (.slice aW aG.length aX)) (fun _ hk=>hk.1.1),by repeat (first|(with_reducible first|exact HB.out|apply below_alloc|apply pw_below_drewN|apply below_drew1|refine below_set ?_ aH.out|refine below_set ?_ aI.out)|exact HB.out)⟩
end Go.Proofs.YtncomlmhagaajaaGreat.PBo
namespace Go.Proofs.YtncomlmhagaajaaGreat.PBo
open Go.Proofs.YtncomlmhagaajaaGreat.Mine Go.RowKit Go.Proofs.YtncomlmhagaajaaGreatW.PrintWords Go.Proofs.YtncomlmhagaajaaGreatW.PrintLast Go.Proofs.YtncomlmhagaajaaGreatW.PrintMore
open Go.Proofs.YtncomlmhagaajaaGreat.Mine
attribute [local go_sem] max2_int min2_int max_two min_two max_three min_three max_four min_four
def tribunalref09_Signed.f (k:Nat) (a0_0:Int) (l0_1:List Int):Option (Bool×List Int×Int):=(tribunalref09_Right.f k a0_0 l0_1).bind fun t1282=>(if t1282=true then((tribunalref09_S.f k a0_0 l0_1).bind fun bt1283=>((tribunalref02_To.f k bt1283.1 bt1283.2).bind fun bt1287=>(some (bt1287.1,bt1287.2,0)))) else(some (false,([]:List Int),90)))
theorem tribunalref09_Signed.calls (k:Nat) (ab:Int) (ac:Option Addr) (ad:Nat) (aa:List Int) (r1:Bool) (r2:List Int) (r3:Int) (w:World) (ae:Kd.C (Kd.int .u64) w ac aa.length aa) (af:aa.length≤ad) (h:tribunalref09_Signed.f k ab aa=some (r1,r2,r3)) :
  Calls Tryz.prog 27 #[.agg #[.int .i64 ab,.slice ac aa.length ad]] w fun e w'=>∃v1_:Value,e=.returned (.tuple #[.agg #[.bool r1,v1_],.int .i64 r3])∧Kd.R (Kd.int .u64) 48 w' w.heap.size (fun _=>True) v1_ r2∧Below w.heap.size w w':=by
 have ai:=Tryz.underlying28
 have aj:=Tryz.underlying43
 have K:=Kp.refl w
 replace K:=K.parV (Kd.V_mono (ok':=fun _=>True) (Kd.V_mk (e:=48) (base:=0) af (Kd.C_F (Kd.heap_int .u64) ae)) (fun _ h=>trivial))
 clear ae af
 try simp only[klv]at K
 rw[tribunalref09_Signed.f]at h
 replace h:=bindA h
 obtain⟨z5,A6,h⟩:=h
 by_cases c_0:z5=true
 ·subst c_0
  rw[if_pos rfl]at h
  replace h:=bindA h
  obtain⟨⟨z8,x9⟩,A10,h⟩:=h
  dsimp only at h
  replace h:=bindA h
  obtain⟨⟨z17,x18⟩,A19,h⟩:=h
  dsimp only at h
  simp only[Option.some.injEq,Prod.mk.injEq]at h
  obtain⟨rfl,rfl,rfl⟩:=h
  go_enter Tryz.func27,Tryz.ntmps27
  go_wp2_with (first|((with_reducible refine gate_dst (N:=1) rfl ?_);refine kbe 1 #[.int .i64 ab,.slice ac aa.length ad] 28 ?_;intro g1 hg W2 hx hb;replace K:=K.u.box hg hx hb;clear hg hx hb)|((with_reducible refine gate_dst (N:=2) rfl ?_);refine kbe 2 #[.bool false,.slice none 0 0] 43 ?_;intro g3 hg W4 hx hb;replace K:=K.u.box hg hx hb;clear hg hx hb;obtain⟨ua0,ub0⟩:=K.cell2 0 rfl)|((with_reducible refine gate_dst (N:=5) rfl ?_);clear ua0 ub0;refine kgl (some 5) rfl rfl Tryz.func30 #[.agg #[.int .i64 ab,.slice ac aa.length ad]] rfl ?_;refine(tribunalref09_Right.calls _ ab _ _ aa true _ (K.C 0 rfl) (K.le 0 rfl) A6.out).mono ?_;rintro e W7 ⟨rfl,hb⟩;refine⟨_,rfl,?_⟩;replace K:=K.u.up hb;clear hb;obtain⟨ua0,ub0⟩:=K.cell2 0 rfl)|((with_reducible refine gate_dst (N:=9) rfl ?_);clear ua0 ub0;refine kgl (some 9) rfl rfl Tryz.func47 #[.agg #[.int .i64 ab,.slice ac aa.length ad]] rfl ?_;refine(tribunalref09_S.calls _ ab _ _ aa z8 x9 _ (K.C 0 rfl) (K.le 0 rfl) A10.out).mono ?_;rintro e W13 ⟨v11,rfl,ag,hb⟩;refine⟨_,rfl,?_⟩;replace K:=K.u.addF (fun _=>True) hb ag;clear hb ag;obtain⟨P14,c15,e16⟩:=K.slice 1 rfl;subst e16)|((with_reducible refine gate_dst (N:=10) rfl ?_);refine kgl (some 10) rfl rfl Tryz.func50 #[.agg #[.bool z8,.slice P14 x9.length c15]] rfl ?_;refine(tribunalref02_To.calls _ z8 _ _ x9 z17 x18 _ (K.C 1 rfl) (K.le 1 rfl) A19.out).mono ?_;rintro e W22 ⟨v20,rfl,ah,hb⟩;refine⟨_,rfl,?_⟩;replace K:=K.u.addRE hb ah;clear hb ah;obtain⟨P23,c24,e25⟩:=K.slice 2 rfl;subst e25)|((with_reducible refine gate_store (t:=43) (p:=2) (v:=.tmp 10) rfl ?_);refine kst2 1 (.bool z17) (.slice P23 x18.length c24) K.u rfl ?q27 ?_;(case q27=>intro c0 c1 f0 f1;first|(go_simp;done)|(go_simp;rfl));clear K;intro W26 K;simp only[kls,klv]at K))
  refine bodyPost_ret (results_list (rs:=[.cell 2 43,.tmp 3]) rfl Z1 (.cell g3 43 #[.bool z17,.slice P23 x18.length c24] (0,0) _ rfl (K.u.heap 1 rfl) Tryz.underlying43 rfl Y0 (.tmp .nil))) rfl ?_
  exact⟨_,rfl,K.u.R 0 rfl,K.u.below⟩
 replace c_0:=Bool.eq_false_iff.mpr c_0
 subst c_0
 rw[if_neg X0]at h
 simp only[Option.some.injEq,Prod.mk.injEq]at h
 obtain⟨rfl,rfl,rfl⟩:=h
 go_enter Tryz.func27,Tryz.ntmps27
 go_wp2_with (first|((with_reducible refine gate_dst (N:=1) rfl ?_);refine kbe 1 #[.int .i64 ab,.slice ac aa.length ad] 28 ?_;intro g1 hg W2 hx hb;replace K:=K.u.box hg hx hb;clear hg hx hb)|((with_reducible refine gate_dst (N:=2) rfl ?_);refine kbe 2 #[.bool false,.slice none 0 0] 43 ?_;intro g3 hg W4 hx hb;replace K:=K.u.box hg hx hb;clear hg hx hb;obtain⟨ua0,ub0⟩:=K.cell2 0 rfl)|((with_reducible refine gate_dst (N:=5) rfl ?_);clear ua0 ub0;refine kgl (some 5) rfl rfl Tryz.func30 #[.agg #[.int .i64 ab,.slice ac aa.length ad]] rfl ?_;refine(tribunalref09_Right.calls _ ab _ _ aa false _ (K.C 0 rfl) (K.le 0 rfl) A6.out).mono ?_;rintro e W7 ⟨rfl,hb⟩;refine⟨_,rfl,?_⟩;replace K:=K.u.up hb;clear hb)|((with_reducible refine gate_store (t:=43) (p:=2) (v:=.tmp 7) rfl ?_);refine kst2 1 (.bool false) (.slice none 0 0) K.u rfl ?q9 ?_;(case q9=>intro c0 c1 f0 f1;first|(go_simp;done)|(go_simp;rfl));clear K;intro W8 K;simp only[kls,klv]at K))
 refine bodyPost_ret (results_list (rs:=[.cell 2 43,.tmp 3]) rfl Z1 (.cell g3 43 #[.bool false,.slice none 0 0] (0,0) _ rfl (K.u.heap 1 rfl) Tryz.underlying43 rfl Y0 (.tmp .nil))) rfl ?_
 exact⟨_,rfl,Kd.R_nil _ _ _ _ _,K.u.below⟩
def tribunallaw09_BitsMakes.f (k:Nat) (a0:Int) (a1:Int) (a2_0:Bool) (l2_1:List Int) (a3_0:Int) (l3_1:List Int):Option (Bool):=(bits_Of.f k a0 a1).bind fun bt1293=>((tribunalref09_Of.f k a0 a1).bind fun bt1299=>((bits_From.f k a0 a2_0 l2_1).bind fun bt1305=>((tribunalref09_From.f k a0 a2_0 l2_1).bind fun bt1311=>((bits_Unsigned.f k a3_0 l3_1).bind fun bt1317=>((tribunalref09_Unsigned.f k a3_0 l3_1).bind fun bt1323=>((bits_Signed.f k a3_0 l3_1).bind fun bt1329=>((tribunalref09_Signed.f k a3_0 l3_1).bind fun bt1335=>((tribunalref09_Same.f k bt1293.1 bt1293.2.1 bt1299.1 bt1299.2.1).bind fun t1341=>(if t1341=true then(if bt1293.2.2=bt1299.2.2 then((tribunalref09_Same.f k bt1305.1 bt1305.2.1 bt1311.1 bt1311.2.1).bind fun t1342=>(if t1342=true then(if bt1305.2.2=bt1311.2.2 then((whole_Cmp.f k bt1317.1 bt1317.2.1 bt1323.1 bt1323.2.1).bind fun t1343=>(if t1343=0 then(if bt1317.2.2=bt1323.2.2 then((whole_Cmp.f k bt1329.1 bt1329.2.1 bt1335.1 bt1335.2.1).bind fun t1344=>(if t1344=0 then(if bt1329.2.2=bt1335.2.2 then((bits_Right.f k a3_0 l3_1).bind fun t1345=>((tribunalref09_Right.f k a3_0 l3_1).bind fun t1346=>(if(t1345==t1346)=true then((tribunallaw09_alive.f k).bind fun t1347=>(some t1347)) else(none)))) else(none)) else(none))) else(none)) else(none))) else(none)) else(none))) else(none)) else(none))))))))))
def tribunallaw09_BitsMakes.T9:Bool×List (List Nat×List Nat):=(true,[([],[]),([],[]),([0,1],[0,1]),([2,2],[2]),([3],[3]),([3],[3]),([4,5,3],[3,4,5]),([3,6],[3,6]),([7,3],[7]),([8],[8]),([8],[8]),([9,10,8,8],[8,9,10]),([8,11],[8,11]),([12,11],[12]),([13],[13]),([13],[13]),([14,15,13],[13,14,15]),([13,16],[13,16]),([17,13],[17]),([18],[18]),([18],[18]),([19,20,18,18],[18,19,20]),([21,18],[18,21]),([18,22],[18,22]),([23,21],[23]),([24],[24]),([24],[24]),([25,26,24],[24,25,26]),([24,27],[24,27]),([28,24],[28]),([29],[29]),([29],[29]),([30,31,29,29],[29,30,31]),([32,29],[29,32]),([29,33],[29,33]),([34,32],[34]),([35],[35]),([35],[35]),([36,37,35],[35,36,37]),([35,38],[35,38]),([39,35],[39]),([40],[40]),([41,40,40],[40,41]),([40],[40]),([43,42,40],[40,43]),([42,44,40],[40,42,44]),([40,45],[40,45]),([46,44],[46]),([47,47],[47]),([47,48],[47,48]),([49,48,0,1,2,3,4,5,6,7,8,9,10,11,12,13,14,15,16,17,18,19,20,21,22,23,24,25,26,27,28,29,30,31,32,33,34,35,36,37,38,39,40,41,42,43,44,45,46,47,48,49],[49])])
def tribunallaw09_BitsMakes.B9:List Nat:=[0,0,3,7,15,15,63,127,255,511,511,2047,4095,8191,16383,16383,65535,131071,262143,524287,524287,2097151,4194303,8388607,16777215,33554431,33554431,134217727,268435455,536870911,1073741823,1073741823,4294967295,8589934591,17179869183,34359738367,68719476735,68719476735,274877906943,549755813887,1099511627775,2199023255551,4398046511103,2199023255551,17592186044415,35184372088831,70368744177663,140737488355327,281474976710655,562949953421311,1125899906842623]
theorem tribunallaw09_BitsMakes.tab9:rtab .any (opsOf Tryz.f9 9)=tribunallaw09_BitsMakes.T9:=by kernel_rfl
theorem tribunallaw09_BitsMakes.bits9:waitsOk tribunallaw09_BitsMakes.T9.2 tribunallaw09_BitsMakes.B9=true:=by kernel_rfl
theorem tribunallaw09_BitsMakes.calls (k:Nat) (a0:Int) (a1:Int) (af:Bool) (ak:Option Addr) (al:Nat) (ae:List Int) (ab:Int) (ac:Option Addr) (ad:Nat) (aa:List Int) (r:Bool) (w:World) (ap:Kd.C (Kd.int .u64) w ak ae.length ae) (aq:ae.length≤al) (ar:Kd.C (Kd.int .u64) w ac aa.length aa) (au:aa.length≤ad) (h:tribunallaw09_BitsMakes.f k a0 a1 af ae ab aa=some r) :
  Calls Tryz.prog 9 #[.int .i64 a0,.int .u64 a1,.agg #[.bool af,.slice ak ae.length al],.agg #[.int .i64 ab,.slice ac aa.length ad]] w fun e w'=>e=.returned (.bool r)∧Below w.heap.size w w':=by
 have aZ:=Tryz.underlying28
 have bb:=Tryz.underlying43
 have K:=Kp.refl w
 replace K:=K.parV (Kd.V_mono (ok':=fun _=>True) (Kd.V_mk (e:=48) (base:=0) aq (Kd.C_F (Kd.heap_int .u64) ap)) (fun _ h=>trivial))
 clear ap aq
 replace K:=K.parV (Kd.V_mono (ok':=fun _=>True) (Kd.V_mk (e:=48) (base:=0) au (Kd.C_F (Kd.heap_int .u64) ar)) (fun _ h=>trivial))
 clear ar au
 try simp only[klv]at K
 rw[tribunallaw09_BitsMakes.f]at h
 replace h:=bindA h
 obtain⟨⟨n5,x6,n7⟩,A8,h⟩:=h
 dsimp only at h
 replace h:=bindA h
 obtain⟨⟨n19,x20,n21⟩,A22,h⟩:=h
 dsimp only at h
 replace h:=bindA h
 obtain⟨⟨n33,x34,n35⟩,A36,h⟩:=h
 dsimp only at h
 replace h:=bindA h
 obtain⟨⟨n47,x48,n49⟩,A50,h⟩:=h
 dsimp only at h
 replace h:=bindA h
 obtain⟨⟨z61,x62,n63⟩,A64,h⟩:=h
 dsimp only at h
 replace h:=bindA h
 obtain⟨⟨z75,x76,n77⟩,A78,h⟩:=h
 dsimp only at h
 replace h:=bindA h
 obtain⟨⟨z89,x90,n91⟩,A92,h⟩:=h
 dsimp only at h
 replace h:=bindA h
 obtain⟨⟨z103,ag,ah⟩,aP,h⟩:=h
 dsimp only at h
 go_enter Tryz.func9,Tryz.ntmps9
 go_wp2_with (first|((with_reducible refine gate_dst (N:=6) rfl ?_);refine kbe 6 #[.bool af,.slice ak ae.length al] 43 ?_;intro g1 hg W2 hx hb;replace K:=K.u.box hg hx hb;clear hg hx hb)|((with_reducible refine gate_dst (N:=7) rfl ?_);refine kbe 7 #[.int .i64 ab,.slice ac aa.length ad] 28 ?_;intro g3 hg W4 hx hb;replace K:=K.u.box hg hx hb;clear hg hx hb)|((with_reducible refine gate_dst (N:=28) rfl ?_);refine kgl (some 28) rfl rfl Tryz.func21 #[.int .i64 a0,.int .u64 a1] rfl ?_;refine(bits_Of.calls _ a0 a1 n5 x6 n7 _ A8.out).mono ?_;rintro e W11 ⟨v9,rfl,aw,hb⟩;refine⟨_,rfl,?_⟩;replace K:=K.u.addRE hb aw;clear hb aw;obtain⟨P12,c13,e14⟩:=K.slice 2 rfl;subst e14)|((with_reducible refine gate_dst (N:=9) rfl ?_);refine kbe 9 #[.int .i64 0,.slice none 0 0] 28 ?_;intro g15 hg W16 hx hb;replace K:=K.u.box hg hx hb;clear hg hx hb)|((with_reducible refine gate_store (t:=28) (p:=9) (v:=.tmp 29) rfl ?_);refine kst2 2 (.int .i64 n5) (.slice P12 x6.length c13) K.u rfl ?q18 ?_;(case q18=>intro c0 c1 f0 f1;first|(go_simp;done)|(go_simp;rfl));clear K;intro W17 K;simp only[kls,klv]at K)|((with_reducible refine gate_dst (N:=34) rfl ?_);refine kgl (some 34) rfl rfl Tryz.func22 #[.int .i64 a0,.int .u64 a1] rfl ?_;refine(tribunalref09_Of.calls _ a0 a1 n19 x20 n21 _ A22.out).mono ?_;rintro e W25 ⟨v23,rfl,ax,hb⟩;refine⟨_,rfl,?_⟩;replace K:=K.u.addRE hb ax;clear hb ax;obtain⟨P26,c27,e28⟩:=K.slice 3 rfl;subst e28)|((with_reducible refine gate_dst (N:=11) rfl ?_);refine kbe 11 #[.int .i64 0,.slice none 0 0] 28 ?_;intro g29 hg W30 hx hb;replace K:=K.u.box hg hx hb;clear hg hx hb)|((with_reducible refine gate_store (t:=28) (p:=11) (v:=.tmp 35) rfl ?_);refine kst2 3 (.int .i64 n19) (.slice P26 x20.length c27) K.u rfl ?q32 ?_;(case q32=>intro c0 c1 f0 f1;first|(go_simp;done)|(go_simp;rfl));clear K;intro W31 K;simp only[kls,klv]at K;obtain⟨ua0,ub0⟩:=K.cell2 0 rfl)|((with_reducible refine gate_dst (N:=40) rfl ?_);clear ua0 ub0;refine kgl (some 40) rfl rfl Tryz.func17 #[.int .i64 a0,.agg #[.bool af,.slice ak ae.length al]] rfl ?_;refine(bits_From.calls _ a0 af _ _ ae n33 x34 n35 _ (K.C 0 rfl) (K.le 0 rfl) A36.out).mono ?_;rintro e W39 ⟨v37,rfl,ay,hb⟩;refine⟨_,rfl,?_⟩;replace K:=K.u.addRE hb ay;clear hb ay;obtain⟨P40,c41,e42⟩:=K.slice 4 rfl;subst e42)|((with_reducible refine gate_dst (N:=13) rfl ?_);refine kbe 13 #[.int .i64 0,.slice none 0 0] 28 ?_;intro g43 hg W44 hx hb;replace K:=K.u.box hg hx hb;clear hg hx hb)|((with_reducible refine gate_store (t:=28) (p:=13) (v:=.tmp 41) rfl ?_);refine kst2 4 (.int .i64 n33) (.slice P40 x34.length c41) K.u rfl ?q46 ?_;(case q46=>intro c0 c1 f0 f1;first|(go_simp;done)|(go_simp;rfl));clear K;intro W45 K;simp only[kls,klv]at K;obtain⟨ua0,ub0⟩:=K.cell2 0 rfl)|((with_reducible refine gate_dst (N:=46) rfl ?_);clear ua0 ub0;refine kgl (some 46) rfl rfl Tryz.func23 #[.int .i64 a0,.agg #[.bool af,.slice ak ae.length al]] rfl ?_;refine(tribunalref09_From.calls _ a0 af _ _ ae n47 x48 n49 _ (K.C 0 rfl) (K.le 0 rfl) A50.out).mono ?_;rintro e W53 ⟨v51,rfl,az,hb⟩;refine⟨_,rfl,?_⟩;replace K:=K.u.addRE hb az;clear hb az;obtain⟨P54,c55,e56⟩:=K.slice 5 rfl;subst e56)|((with_reducible refine gate_dst (N:=15) rfl ?_);refine kbe 15 #[.int .i64 0,.slice none 0 0] 28 ?_;intro g57 hg W58 hx hb;replace K:=K.u.box hg hx hb;clear hg hx hb)|((with_reducible refine gate_store (t:=28) (p:=15) (v:=.tmp 47) rfl ?_);refine kst2 5 (.int .i64 n47) (.slice P54 x48.length c55) K.u rfl ?q60 ?_;(case q60=>intro c0 c1 f0 f1;first|(go_simp;done)|(go_simp;rfl));clear K;intro W59 K;simp only[kls,klv]at K;obtain⟨ua1,ub1⟩:=K.cell2 1 rfl)|((with_reducible refine gate_dst (N:=51) rfl ?_);clear ua1 ub1;refine kgl (some 51) rfl rfl Tryz.func24 #[.agg #[.int .i64 ab,.slice ac aa.length ad]] rfl ?_;refine(bits_Unsigned.calls _ ab _ _ aa z61 x62 n63 _ (K.C 1 rfl) (K.le 1 rfl) A64.out).mono ?_;rintro e W67 ⟨v65,rfl,aA,hb⟩;refine⟨_,rfl,?_⟩;replace K:=K.u.addRE hb aA;clear hb aA;obtain⟨P68,c69,e70⟩:=K.slice 6 rfl;subst e70)|((with_reducible refine gate_dst (N:=17) rfl ?_);refine kbe 17 #[.bool false,.slice none 0 0] 43 ?_;intro g71 hg W72 hx hb;replace K:=K.u.box hg hx hb;clear hg hx hb)|((with_reducible refine gate_store (t:=43) (p:=17) (v:=.tmp 52) rfl ?_);refine kst2 6 (.bool z61) (.slice P68 x62.length c69) K.u rfl ?q74 ?_;(case q74=>intro c0 c1 f0 f1;first|(go_simp;done)|(go_simp;rfl));clear K;intro W73 K;simp only[kls,klv]at K;obtain⟨ua1,ub1⟩:=K.cell2 1 rfl)|((with_reducible refine gate_dst (N:=56) rfl ?_);clear ua1 ub1;refine kgl (some 56) rfl rfl Tryz.func25 #[.agg #[.int .i64 ab,.slice ac aa.length ad]] rfl ?_;refine(tribunalref09_Unsigned.calls _ ab _ _ aa z75 x76 n77 _ (K.C 1 rfl) (K.le 1 rfl) A78.out).mono ?_;rintro e W81 ⟨v79,rfl,aB,hb⟩;refine⟨_,rfl,?_⟩;replace K:=K.u.addRE hb aB;clear hb aB;obtain⟨P82,c83,e84⟩:=K.slice 7 rfl;subst e84)|((with_reducible refine gate_dst (N:=19) rfl ?_);refine kbe 19 #[.bool false,.slice none 0 0] 43 ?_;intro g85 hg W86 hx hb;replace K:=K.u.box hg hx hb;clear hg hx hb)|((with_reducible refine gate_store (t:=43) (p:=19) (v:=.tmp 57) rfl ?_);refine kst2 7 (.bool z75) (.slice P82 x76.length c83) K.u rfl ?q88 ?_;(case q88=>intro c0 c1 f0 f1;first|(go_simp;done)|(go_simp;rfl));clear K;intro W87 K;simp only[kls,klv]at K;obtain⟨ua1,ub1⟩:=K.cell2 1 rfl)|((with_reducible refine gate_dst (N:=61) rfl ?_);clear ua1 ub1;refine kgl (some 61) rfl rfl Tryz.func26 #[.agg #[.int .i64 ab,.slice ac aa.length ad]] rfl ?_;refine(bits_Signed.calls _ ab _ _ aa z89 x90 n91 _ (K.C 1 rfl) (K.le 1 rfl) A92.out).mono ?_;rintro e W95 ⟨v93,rfl,aC,hb⟩;refine⟨_,rfl,?_⟩;replace K:=K.u.addRE hb aC;clear hb aC;obtain⟨P96,c97,e98⟩:=K.slice 8 rfl;subst e98)|((with_reducible refine gate_dst (N:=21) rfl ?_);refine kbe 21 #[.bool false,.slice none 0 0] 43 ?_;intro g99 hg bc hx hb;replace K:=K.u.box hg hx hb;clear hg hx hb)|((with_reducible refine gate_store (t:=43) (p:=21) (v:=.tmp 62) rfl ?_);refine kst2 8 (.bool z89) (.slice P96 x90.length c97) K.u rfl ?q102 ?_;(case q102=>intro c0 c1 f0 f1;first|(go_simp;done)|(go_simp;rfl));clear K;intro bd K;simp only[kls,klv]at K;obtain⟨ua1,ub1⟩:=K.cell2 1 rfl)|((with_reducible refine gate_dst (N:=66) rfl ?_);clear ua1 ub1;refine kgl (some 66) rfl rfl Tryz.func27 #[.agg #[.int .i64 ab,.slice ac aa.length ad]] rfl ?_;refine(tribunalref09_Signed.calls _ ab _ _ aa z103 ag ah _ (K.C 1 rfl) (K.le 1 rfl) aP.out).mono ?_;rintro e be ⟨bf,rfl,av,hb⟩;refine⟨_,rfl,?_⟩;replace K:=K.u.addRE hb av;clear hb av;obtain⟨am,an,aQ⟩:=K.slice 9 rfl;subst aQ)|((with_reducible refine gate_dst (N:=23) rfl ?_);refine kbe 23 #[.bool false,.slice none 0 0] 43 ?_;intro ao hg bg hx hb;replace K:=K.u.box hg hx hb;clear hg hx hb)|((with_reducible refine gate_store (t:=43) (p:=23) (v:=.tmp 67) rfl ?_);refine kst2 9 (.bool z103) (.slice am ag.length an) K.u rfl ?q116 ?_;(case q116=>intro c0 c1 f0 f1;first|(go_simp;done)|(go_simp;rfl));clear K;intro bh K;simp only[kls,klv]at K))
 replace h:=bindA h
 obtain⟨z117,aR,h⟩:=h
 by_cases c_0:z117=true
 ·subst c_0
  rw[if_pos rfl]at h
  by_cases c_1:n7=n21
  ·rw [if_pos c_1]at h
   have aD:(n7==n21)=true:=beq_iff_eq.mpr c_1
   have aE:(n7 != n21)=false:=bne_eq_false_iff_eq.mpr c_1
   clear c_1
   replace h:=bindA h
   obtain⟨z119,aS,h⟩:=h
   by_cases c_2:z119=true
   ·subst c_2
    rw[if_pos rfl]at h
    by_cases c_3:n35=n49
    ·rw [if_pos c_3]at h
     have aF:(n35==n49)=true:=beq_iff_eq.mpr c_3
     have aG:(n35 != n49)=false:=bne_eq_false_iff_eq.mpr c_3
     clear c_3
     replace h:=bindA h
     obtain⟨ai,aT,h⟩:=h
     by_cases c_4:ai=0
     ·rw [if_pos c_4]at h
      have aH:(ai==0)=true:=beq_iff_eq.mpr c_4
      have aI:(ai != 0)=false:=bne_eq_false_iff_eq.mpr c_4
      clear c_4
      by_cases c_5:n63=n77
      ·rw [if_pos c_5]at h
       have aJ:(n63==n77)=true:=beq_iff_eq.mpr c_5
       have aK:(n63 != n77)=false:=bne_eq_false_iff_eq.mpr c_5
       clear c_5
       replace h:=bindA h
       obtain⟨aj,aU,h⟩:=h
       by_cases c_6:aj=0
       ·rw [if_pos c_6]at h
        have aL:(aj==0)=true:=beq_iff_eq.mpr c_6
        have aM:(aj != 0)=false:=bne_eq_false_iff_eq.mpr c_6
        clear c_6
        by_cases c_7:n91=ah
        ·rw[if_pos c_7]at h
         have aN:(n91==ah)=true:=beq_iff_eq.mpr c_7
         have aO:(n91 != ah)=false:=bne_eq_false_iff_eq.mpr c_7
         clear c_7
         replace h:=bindA h
         obtain⟨z125,aV,h⟩:=h
         replace h:=bindA h
         obtain⟨z127,aW,h⟩:=h
         by_cases c_8:(z125==z127)=true
         ·rw[if_pos c_8]at h
          have aX:decide (z125=z127)=true:=by simpa using c_8
          replace h:=bindA h
          obtain⟨z129,aY,h⟩:=h
          obtain⟨Bs,Vs,Os,hBs,hVs,hOs,K⟩:=K.abs
          have HS:Aside0 (∀l m o W,Kp w (Bs++l) m o W→W.cell? ⟨g15,0,none⟩=some (.int .i64 n5)∧W.cell? ⟨g15,1,none⟩=some (.slice P12 x6.length c13)∧W.cell? ⟨g29,0,none⟩=some (.int .i64 n19)∧W.cell? ⟨g29,1,none⟩=some (.slice P26 x20.length c27)∧W.cell? ⟨g43,0,none⟩=some (.int .i64 n33)∧W.cell? ⟨g43,1,none⟩=some (.slice P40 x34.length c41)∧W.cell? ⟨g57,0,none⟩=some (.int .i64 n47)∧W.cell? ⟨g57,1,none⟩=some (.slice P54 x48.length c55)∧W.cell? ⟨g71,0,none⟩=some (.bool z61)∧W.cell? ⟨g71,1,none⟩=some (.slice P68 x62.length c69)∧W.cell? ⟨g85,0,none⟩=some (.bool z75)∧W.cell? ⟨g85,1,none⟩=some (.slice P82 x76.length c83)∧W.cell? ⟨g99,0,none⟩=some (.bool z89)∧W.cell? ⟨g99,1,none⟩=some (.slice P96 x90.length c97)∧W.cell? ⟨ao,0,none⟩=some (.bool z103)∧W.cell? ⟨ao,1,none⟩=some (.slice am ag.length an)∧W.cell? ⟨g3,0,none⟩=some (.int .i64 ab)∧W.cell? ⟨g3,1,none⟩=some (.slice ac aa.length ad)):=⟨fun l m o W K=>by rw[hBs.out]at K;exact⟨K.cell 2 rfl 0 rfl,K.cell 2 rfl 1 rfl,K.cell 3 rfl 0 rfl,K.cell 3 rfl 1 rfl,K.cell 4 rfl 0 rfl,K.cell 4 rfl 1 rfl,K.cell 5 rfl 0 rfl,K.cell 5 rfl 1 rfl,K.cell 6 rfl 0 rfl,K.cell 6 rfl 1 rfl,K.cell 7 rfl 0 rfl,K.cell 7 rfl 1 rfl,K.cell 8 rfl 0 rfl,K.cell 8 rfl 1 rfl,K.cell 9 rfl 0 rfl,K.cell 9 rfl 1 rfl,K.cell 1 rfl 0 rfl,K.cell 1 rfl 1 rfl⟩⟩
          refine kpstart (n:=51) (ds:=[]) (S:=fun W=>W.cell? ⟨g15,0,none⟩=some (.int .i64 n5)∧W.cell? ⟨g15,1,none⟩=some (.slice P12 x6.length c13)∧W.cell? ⟨g29,0,none⟩=some (.int .i64 n19)∧W.cell? ⟨g29,1,none⟩=some (.slice P26 x20.length c27)∧W.cell? ⟨g43,0,none⟩=some (.int .i64 n33)∧W.cell? ⟨g43,1,none⟩=some (.slice P40 x34.length c41)∧W.cell? ⟨g57,0,none⟩=some (.int .i64 n47)∧W.cell? ⟨g57,1,none⟩=some (.slice P54 x48.length c55)∧W.cell? ⟨g71,0,none⟩=some (.bool z61)∧W.cell? ⟨g71,1,none⟩=some (.slice P68 x62.length c69)∧W.cell? ⟨g85,0,none⟩=some (.bool z75)∧W.cell? ⟨g85,1,none⟩=some (.slice P82 x76.length c83)∧W.cell? ⟨g99,0,none⟩=some (.bool z89)∧W.cell? ⟨g99,1,none⟩=some (.slice P96 x90.length c97)∧W.cell? ⟨ao,0,none⟩=some (.bool z103)∧W.cell? ⟨ao,1,none⟩=some (.slice am ag.length an)∧W.cell? ⟨g3,0,none⟩=some (.int .i64 ab)∧W.cell? ⟨g3,1,none⟩=some (.slice ac aa.length ad)) #[false,false,false,false,false,false,false,false,false,false,false,false,false,false,false,false,false,false,false,false,false,false,false,false,false,false,false,false,false,false,false,false,false,false,false,false,false,false,false,false,false,false,false,false,false,false,false,false,false,false,false] Y0 rfl rfl K (HS.out [] _ _) (fun bi K hH=>?_)
          refine with_tabW tribunallaw09_BitsMakes.tab9 tribunallaw09_BitsMakes.bits9 (fun HT_ HW_=>?_)
          refine take_ (i:=0) (N:=some 69) (v:=?_) (a':=?_) #[true,false,false,false,false,false,false,false,false,false,false,false,false,false,false,false,false,false,false,false,false,false,false,false,false,false,false,false,false,false,false,false,false,false,false,false,false,false,false,false,false,false,false,false,false,false,false,false,false,false,false] rfl rfl (take_ofW HT_.out HW_.out Y0) (fun _ _ _ h=>h) (Or.inl ⟨F0,?_⟩) hH ?_ ?_
          rotate_left
          ·rintro w' ⟨s0,s1,s2,s3,s4,s5,s6,s7,s8,s9,s10,s11,s12,s13,s14,s15,s16,s17⟩
           go_simp
           with_reducible rfl
          rotate_left
          ·simp only[Act.put,kss,i64_w,i32_w]
           rfl
          refine take_ (i:=1) (N:=some 70) (v:=?_) (a':=?_) #[true,true,false,false,false,false,false,false,false,false,false,false,false,false,false,false,false,false,false,false,false,false,false,false,false,false,false,false,false,false,false,false,false,false,false,false,false,false,false,false,false,false,false,false,false,false,false,false,false,false,false] rfl rfl (take_ofW HT_.out HW_.out Y0) (fun _ _ _ h=>h) (Or.inl ⟨F0,?_⟩) hH ?_ ?_
          rotate_left
          ·rintro w' ⟨s0,s1,s2,s3,s4,s5,s6,s7,s8,s9,s10,s11,s12,s13,s14,s15,s16,s17⟩
           go_simp
           with_reducible rfl
          rotate_left
          ·simp only[Act.put,kss,i64_w,i32_w]
           rfl
          refine one_ (i:=2) (N:=some 71) #[true,true,true,false,false,false,false,false,false,false,false,false,false,false,false,false,false,false,false,false,false,false,false,false,false,false,false,false,false,false,false,false,false,false,false,false,false,false,false,false,false,false,false,false,false,false,false,false,false,false,false] rfl rfl (one_of HT_.out Y0) X0 (fun Kc hK=>?_)
          refine kgo Tryz.func13 #[.agg #[.int .i64 n5,.slice P12 x6.length c13],.agg #[.int .i64 n19,.slice P26 x20.length c27]] F0 rfl rfl ?_
          refine(tribunalref09_Same.calls _ n5 _ _ x6 n19 _ _ x20 true _ (K.C 2 X1) (K.le 2 X1) (K.C 3 X1) (K.le 3 X1) aR.out).mono ?_
          rintro e W' ⟨rfl,hb⟩
          replace K:=K.up hb
          clear hb
          refine⟨_,rfl,hK.out _ _ (HS.out _ _ _ _ K) fun hH=>?_⟩
          refine norm_ (a':=?_) ?_ ?_
          rotate_left
          ·show Act.put _ (some 71) _=_
           simp only[Act.put,kss,i64_w,i32_w]
           rfl
          refine pure_ (i:=3) (N:=some 72) (v:=?_) (a':=?_) #[true,true,true,true,false,false,false,false,false,false,false,false,false,false,false,false,false,false,false,false,false,false,false,false,false,false,false,false,false,false,false,false,false,false,false,false,false,false,false,false,false,false,false,false,false,false,false,false,false,false,false] rfl rfl (any_of HT_.out Y0) (fun _ _ _ h=>h) (Or.inl ⟨F0,?_⟩) ?_ ?_
          rotate_left
          ·intro w'
           go_simp
           with_reducible rfl
          rotate_left
          ·simp only[Act.put,kss,i64_w,i32_w]
           rfl
          refine pure_ (i:=4) (N:=some 73) (v:=?_) (a':=?_) #[true,true,true,true,true,false,false,false,false,false,false,false,false,false,false,false,false,false,false,false,false,false,false,false,false,false,false,false,false,false,false,false,false,false,false,false,false,false,false,false,false,false,false,false,false,false,false,false,false,false,false] rfl rfl (any_of HT_.out Y0) (fun _ _ _ h=>h) (Or.inl ⟨F0,?_⟩) ?_ ?_
          rotate_left
          ·intro w'
           go_simp
           with_reducible rfl
          rotate_left
          ·simp only[Act.put,kss,i64_w,i32_w]
           rfl
          refine pure_ (i:=5) (N:=some 74) (v:=?_) (a':=?_) #[true,true,true,true,true,true,false,false,false,false,false,false,false,false,false,false,false,false,false,false,false,false,false,false,false,false,false,false,false,false,false,false,false,false,false,false,false,false,false,false,false,false,false,false,false,false,false,false,false,false,false] rfl rfl (any_of HT_.out Y0) (fun _ _ _ h=>h) (Or.inl ⟨F0,?_⟩) ?_ ?_
          rotate_left
          ·intro w'
           go_simp
           with_reducible rfl
          rotate_left
          ·simp only[Act.put,kss,i64_w,i32_w]
           rfl
          refine pure_ (i:=6) (N:=some 75) (v:=?_) (a':=?_) #[true,true,true,true,true,true,true,false,false,false,false,false,false,false,false,false,false,false,false,false,false,false,false,false,false,false,false,false,false,false,false,false,false,false,false,false,false,false,false,false,false,false,false,false,false,false,false,false,false,false,false] rfl rfl (any_of HT_.out Y0) (fun _ _ _ h=>h) (Or.inl ⟨F0,?_⟩) ?_ ?_
          rotate_left
          ·intro w'
           go_simp
           with_reducible rfl
          rotate_left
          ·simp only[Act.put,kss,i64_w,i32_w]
           rfl
          refine pure_ (i:=7) (N:=some 76) (v:=?_) (a':=?_) #[true,true,true,true,true,true,true,true,false,false,false,false,false,false,false,false,false,false,false,false,false,false,false,false,false,false,false,false,false,false,false,false,false,false,false,false,false,false,false,false,false,false,false,false,false,false,false,false,false,false,false] rfl rfl (any_of HT_.out Y0) (fun _ _ _ h=>h) (Or.inl ⟨F0,?_⟩) ?_ ?_
          rotate_left
          ·intro w'
           go_simp
           with_reducible rfl
          rotate_left
          ·simp only[Act.put,kss,i64_w,i32_w]
           rfl
          refine pure_ (i:=8) (N:=some 77) (v:=?_) (a':=?_) #[true,true,true,true,true,true,true,true,true,false,false,false,false,false,false,false,false,false,false,false,false,false,false,false,false,false,false,false,false,false,false,false,false,false,false,false,false,false,false,false,false,false,false,false,false,false,false,false,false,false,false] rfl rfl (any_of HT_.out Y0) (fun _ _ _ h=>h) (Or.inl ⟨F0,?_⟩) ?_ ?_
          rotate_left
          ·intro w'
           go_simp
           with_reducible rfl
          rotate_left
          ·simp only[Act.put,kss,i64_w,i32_w]
           rfl
          refine take_ (i:=9) (N:=some 78) (v:=?_) (a':=?_) #[true,true,true,true,true,true,true,true,true,true,false,false,false,false,false,false,false,false,false,false,false,false,false,false,false,false,false,false,false,false,false,false,false,false,false,false,false,false,false,false,false,false,false,false,false,false,false,false,false,false,false] rfl rfl (take_ofW HT_.out HW_.out Y0) (fun _ _ _ h=>h) (Or.inl ⟨F0,?_⟩) hH ?_ ?_
          rotate_left
          ·rintro w' ⟨s0,s1,s2,s3,s4,s5,s6,s7,s8,s9,s10,s11,s12,s13,s14,s15,s16,s17⟩
           go_simp
           with_reducible rfl
          rotate_left
          ·simp only[Act.put,kss,i64_w,i32_w]
           rfl
          refine take_ (i:=10) (N:=some 79) (v:=?_) (a':=?_) #[true,true,true,true,true,true,true,true,true,true,true,false,false,false,false,false,false,false,false,false,false,false,false,false,false,false,false,false,false,false,false,false,false,false,false,false,false,false,false,false,false,false,false,false,false,false,false,false,false,false,false] rfl rfl (take_ofW HT_.out HW_.out Y0) (fun _ _ _ h=>h) (Or.inl ⟨F0,?_⟩) hH ?_ ?_
          rotate_left
          ·rintro w' ⟨s0,s1,s2,s3,s4,s5,s6,s7,s8,s9,s10,s11,s12,s13,s14,s15,s16,s17⟩
           go_simp
           with_reducible rfl
          rotate_left
          ·simp only[Act.put,kss,i64_w,i32_w]
           rfl
          clear hK Kc
          refine one_ (i:=11) (N:=some 80) #[true,true,true,true,true,true,true,true,true,true,true,true,false,false,false,false,false,false,false,false,false,false,false,false,false,false,false,false,false,false,false,false,false,false,false,false,false,false,false,false,false,false,false,false,false,false,false,false,false,false,false] rfl rfl (one_of HT_.out Y0) X0 (fun Kc hK=>?_)
          refine kgo Tryz.func13 #[.agg #[.int .i64 n33,.slice P40 x34.length c41],.agg #[.int .i64 n47,.slice P54 x48.length c55]] F0 rfl rfl ?_
          refine(tribunalref09_Same.calls _ n33 _ _ x34 n47 _ _ x48 true _ (K.C 4 X1) (K.le 4 X1) (K.C 5 X1) (K.le 5 X1) aS.out).mono ?_
          rintro e W' ⟨rfl,hb⟩
          replace K:=K.up hb
          clear hb
          refine⟨_,rfl,hK.out _ _ (HS.out _ _ _ _ K) fun hH=>?_⟩
          refine norm_ (a':=?_) ?_ ?_
          rotate_left
          ·show Act.put _ (some 80) _=_
           simp only[Act.put,kss,i64_w,i32_w]
           rfl
          refine pure_ (i:=12) (N:=some 81) (v:=?_) (a':=?_) #[true,true,true,true,true,true,true,true,true,true,true,true,true,false,false,false,false,false,false,false,false,false,false,false,false,false,false,false,false,false,false,false,false,false,false,false,false,false,false,false,false,false,false,false,false,false,false,false,false,false,false] rfl rfl (any_of HT_.out Y0) (fun _ _ _ h=>h) (Or.inl ⟨F0,?_⟩) ?_ ?_
          rotate_left
          ·intro w'
           go_simp
           with_reducible rfl
          rotate_left
          ·simp only[Act.put,kss,i64_w,i32_w]
           rfl
          refine pure_ (i:=13) (N:=some 82) (v:=?_) (a':=?_) #[true,true,true,true,true,true,true,true,true,true,true,true,true,true,false,false,false,false,false,false,false,false,false,false,false,false,false,false,false,false,false,false,false,false,false,false,false,false,false,false,false,false,false,false,false,false,false,false,false,false,false] rfl rfl (any_of HT_.out Y0) (fun _ _ _ h=>h) (Or.inl ⟨F0,?_⟩) ?_ ?_
          rotate_left
          ·intro w'
           go_simp
           with_reducible rfl
          rotate_left
          ·simp only[Act.put,kss,i64_w,i32_w]
           rfl
          refine pure_ (i:=14) (N:=some 83) (v:=?_) (a':=?_) #[true,true,true,true,true,true,true,true,true,true,true,true,true,true,true,false,false,false,false,false,false,false,false,false,false,false,false,false,false,false,false,false,false,false,false,false,false,false,false,false,false,false,false,false,false,false,false,false,false,false,false] rfl rfl (any_of HT_.out Y0) (fun _ _ _ h=>h) (Or.inl ⟨F0,?_⟩) ?_ ?_
          rotate_left
          ·intro w'
           go_simp
           with_reducible rfl
          rotate_left
          ·simp only[Act.put,kss,i64_w,i32_w]
           rfl
          refine pure_ (i:=15) (N:=some 84) (v:=?_) (a':=?_) #[true,true,true,true,true,true,true,true,true,true,true,true,true,true,true,true,false,false,false,false,false,false,false,false,false,false,false,false,false,false,false,false,false,false,false,false,false,false,false,false,false,false,false,false,false,false,false,false,false,false,false] rfl rfl (any_of HT_.out Y0) (fun _ _ _ h=>h) (Or.inl ⟨F0,?_⟩) ?_ ?_
          rotate_left
          ·intro w'
           go_simp
           with_reducible rfl
          rotate_left
          ·simp only[Act.put,kss,i64_w,i32_w]
           rfl
          refine pure_ (i:=16) (N:=some 85) (v:=?_) (a':=?_) #[true,true,true,true,true,true,true,true,true,true,true,true,true,true,true,true,true,false,false,false,false,false,false,false,false,false,false,false,false,false,false,false,false,false,false,false,false,false,false,false,false,false,false,false,false,false,false,false,false,false,false] rfl rfl (any_of HT_.out Y0) (fun _ _ _ h=>h) (Or.inl ⟨F0,?_⟩) ?_ ?_
          rotate_left
          ·intro w'
           go_simp
           with_reducible rfl
          rotate_left
          ·simp only[Act.put,kss,i64_w,i32_w]
           rfl
          refine pure_ (i:=17) (N:=some 86) (v:=?_) (a':=?_) #[true,true,true,true,true,true,true,true,true,true,true,true,true,true,true,true,true,true,false,false,false,false,false,false,false,false,false,false,false,false,false,false,false,false,false,false,false,false,false,false,false,false,false,false,false,false,false,false,false,false,false] rfl rfl (any_of HT_.out Y0) (fun _ _ _ h=>h) (Or.inl ⟨F0,?_⟩) ?_ ?_
          rotate_left
          ·intro w'
           go_simp
           with_reducible rfl
          rotate_left
          ·simp only[Act.put,kss,i64_w,i32_w]
           rfl
          refine pure_ (i:=18) (N:=some 87) (v:=?_) (a':=?_) #[true,true,true,true,true,true,true,true,true,true,true,true,true,true,true,true,true,true,true,false,false,false,false,false,false,false,false,false,false,false,false,false,false,false,false,false,false,false,false,false,false,false,false,false,false,false,false,false,false,false,false] rfl rfl (any_of HT_.out Y0) (fun _ _ _ h=>h) (Or.inl ⟨F0,?_⟩) ?_ ?_
          rotate_left
          ·intro w'
           go_simp
           with_reducible rfl
          rotate_left
          ·simp only[Act.put,kss,i64_w,i32_w]
           rfl
          refine take_ (i:=19) (N:=some 88) (v:=?_) (a':=?_) #[true,true,true,true,true,true,true,true,true,true,true,true,true,true,true,true,true,true,true,true,false,false,false,false,false,false,false,false,false,false,false,false,false,false,false,false,false,false,false,false,false,false,false,false,false,false,false,false,false,false,false] rfl rfl (take_ofW HT_.out HW_.out Y0) (fun _ _ _ h=>h) (Or.inl ⟨F0,?_⟩) hH ?_ ?_
          rotate_left
          ·rintro w' ⟨s0,s1,s2,s3,s4,s5,s6,s7,s8,s9,s10,s11,s12,s13,s14,s15,s16,s17⟩
           go_simp
           with_reducible rfl
          rotate_left
          ·simp only[Act.put,kss,i64_w,i32_w]
           rfl
          refine take_ (i:=20) (N:=some 89) (v:=?_) (a':=?_) #[true,true,true,true,true,true,true,true,true,true,true,true,true,true,true,true,true,true,true,true,true,false,false,false,false,false,false,false,false,false,false,false,false,false,false,false,false,false,false,false,false,false,false,false,false,false,false,false,false,false,false] rfl rfl (take_ofW HT_.out HW_.out Y0) (fun _ _ _ h=>h) (Or.inl ⟨F0,?_⟩) hH ?_ ?_
          rotate_left
          ·rintro w' ⟨s0,s1,s2,s3,s4,s5,s6,s7,s8,s9,s10,s11,s12,s13,s14,s15,s16,s17⟩
           go_simp
           with_reducible rfl
          rotate_left
          ·simp only[Act.put,kss,i64_w,i32_w]
           rfl
          clear hK Kc
          refine one_ (i:=21) (N:=some 90) #[true,true,true,true,true,true,true,true,true,true,true,true,true,true,true,true,true,true,true,true,true,true,false,false,false,false,false,false,false,false,false,false,false,false,false,false,false,false,false,false,false,false,false,false,false,false,false,false,false,false,false] rfl rfl (one_of HT_.out Y0) X0 (fun Kc hK=>?_)
          refine kgo Tryz.func28 #[.agg #[.bool z61,.slice P68 x62.length c69],.agg #[.bool z75,.slice P82 x76.length c83]] F0 rfl rfl ?_
          refine(whole_Cmp.calls _ z61 _ _ x62 z75 _ _ x76 ai _ (K.C 6 X1) (K.le 6 X1) (K.C 7 X1) (K.le 7 X1) aT.out).mono ?_
          rintro e W' ⟨rfl,hb⟩
          replace K:=K.up hb
          clear hb
          refine⟨_,rfl,hK.out _ _ (HS.out _ _ _ _ K) fun hH=>?_⟩
          refine norm_ (a':=?_) ?_ ?_
          rotate_left
          ·show Act.put _ (some 90) _=_
           simp only[Act.put,kss,i64_w,i32_w]
           rfl
          refine pure_ (i:=22) (N:=some 91) (v:=?_) (a':=?_) #[true,true,true,true,true,true,true,true,true,true,true,true,true,true,true,true,true,true,true,true,true,true,true,false,false,false,false,false,false,false,false,false,false,false,false,false,false,false,false,false,false,false,false,false,false,false,false,false,false,false,false] rfl rfl (any_of HT_.out Y0) (fun _ _ _ h=>h) (Or.inl ⟨F0,?_⟩) ?_ ?_
          rotate_left
          ·intro w'
           go_simp
           with_reducible rfl
          rotate_left
          ·simp only[Act.put,kss,i64_w,i32_w]
           rfl
          refine pure_ (i:=23) (N:=some 92) (v:=?_) (a':=?_) #[true,true,true,true,true,true,true,true,true,true,true,true,true,true,true,true,true,true,true,true,true,true,true,true,false,false,false,false,false,false,false,false,false,false,false,false,false,false,false,false,false,false,false,false,false,false,false,false,false,false,false] rfl rfl (any_of HT_.out Y0) (fun _ _ _ h=>h) (Or.inl ⟨F0,?_⟩) ?_ ?_
          rotate_left
          ·intro w'
           go_simp
           with_reducible rfl
          rotate_left
          ·simp only[Act.put,kss,i64_w,i32_w]
           rfl
          refine pure_ (i:=24) (N:=some 93) (v:=?_) (a':=?_) #[true,true,true,true,true,true,true,true,true,true,true,true,true,true,true,true,true,true,true,true,true,true,true,true,true,false,false,false,false,false,false,false,false,false,false,false,false,false,false,false,false,false,false,false,false,false,false,false,false,false,false] rfl rfl (any_of HT_.out Y0) (fun _ _ _ h=>h) (Or.inl ⟨F0,?_⟩) ?_ ?_
          rotate_left
          ·intro w'
           go_simp
           with_reducible rfl
          rotate_left
          ·simp only[Act.put,kss,i64_w,i32_w]
           rfl
          refine pure_ (i:=25) (N:=some 94) (v:=?_) (a':=?_) #[true,true,true,true,true,true,true,true,true,true,true,true,true,true,true,true,true,true,true,true,true,true,true,true,true,true,false,false,false,false,false,false,false,false,false,false,false,false,false,false,false,false,false,false,false,false,false,false,false,false,false] rfl rfl (any_of HT_.out Y0) (fun _ _ _ h=>h) (Or.inl ⟨F0,?_⟩) ?_ ?_
          rotate_left
          ·intro w'
           go_simp
           with_reducible rfl
          rotate_left
          ·simp only[Act.put,kss,i64_w,i32_w]
           rfl
          refine pure_ (i:=26) (N:=some 95) (v:=?_) (a':=?_) #[true,true,true,true,true,true,true,true,true,true,true,true,true,true,true,true,true,true,true,true,true,true,true,true,true,true,true,false,false,false,false,false,false,false,false,false,false,false,false,false,false,false,false,false,false,false,false,false,false,false,false] rfl rfl (any_of HT_.out Y0) (fun _ _ _ h=>h) (Or.inl ⟨F0,?_⟩) ?_ ?_
          rotate_left
          ·intro w'
           go_simp
           with_reducible rfl
          rotate_left
          ·simp only[Act.put,kss,i64_w,i32_w]
           rfl
          refine pure_ (i:=27) (N:=some 96) (v:=?_) (a':=?_) #[true,true,true,true,true,true,true,true,true,true,true,true,true,true,true,true,true,true,true,true,true,true,true,true,true,true,true,true,false,false,false,false,false,false,false,false,false,false,false,false,false,false,false,false,false,false,false,false,false,false,false] rfl rfl (any_of HT_.out Y0) (fun _ _ _ h=>h) (Or.inl ⟨F0,?_⟩) ?_ ?_
          rotate_left
          ·intro w'
           go_simp
           with_reducible rfl
          rotate_left
          ·simp only[Act.put,kss,i64_w,i32_w]
           rfl
          refine pure_ (i:=28) (N:=some 97) (v:=?_) (a':=?_) #[true,true,true,true,true,true,true,true,true,true,true,true,true,true,true,true,true,true,true,true,true,true,true,true,true,true,true,true,true,false,false,false,false,false,false,false,false,false,false,false,false,false,false,false,false,false,false,false,false,false,false] rfl rfl (any_of HT_.out Y0) (fun _ _ _ h=>h) (Or.inl ⟨F0,?_⟩) ?_ ?_
          rotate_left
          ·intro w'
           go_simp
           with_reducible rfl
          rotate_left
          ·simp only[Act.put,kss,i64_w,i32_w]
           rfl
          refine pure_ (i:=29) (N:=some 98) (v:=?_) (a':=?_) #[true,true,true,true,true,true,true,true,true,true,true,true,true,true,true,true,true,true,true,true,true,true,true,true,true,true,true,true,true,true,false,false,false,false,false,false,false,false,false,false,false,false,false,false,false,false,false,false,false,false,false] rfl rfl (any_of HT_.out Y0) (fun _ _ _ h=>h) (Or.inl ⟨F0,?_⟩) ?_ ?_
          rotate_left
          ·intro w'
           go_simp
           with_reducible rfl
          rotate_left
          ·simp only[Act.put,kss,i64_w,i32_w]
           rfl
          refine take_ (i:=30) (N:=some 99) (v:=?_) (a':=?_) #[true,true,true,true,true,true,true,true,true,true,true,true,true,true,true,true,true,true,true,true,true,true,true,true,true,true,true,true,true,true,true,false,false,false,false,false,false,false,false,false,false,false,false,false,false,false,false,false,false,false,false] rfl rfl (take_ofW HT_.out HW_.out Y0) (fun _ _ _ h=>h) (Or.inl ⟨F0,?_⟩) hH ?_ ?_
          rotate_left
          ·rintro w' ⟨s0,s1,s2,s3,s4,s5,s6,s7,s8,s9,s10,s11,s12,s13,s14,s15,s16,s17⟩
           go_simp
           with_reducible rfl
          rotate_left
          ·simp only[Act.put,kss,i64_w,i32_w]
           rfl
          refine take_ (i:=31) (N:=some 100) (v:=?_) (a':=?_) #[true,true,true,true,true,true,true,true,true,true,true,true,true,true,true,true,true,true,true,true,true,true,true,true,true,true,true,true,true,true,true,true,false,false,false,false,false,false,false,false,false,false,false,false,false,false,false,false,false,false,false] rfl rfl (take_ofW HT_.out HW_.out Y0) (fun _ _ _ h=>h) (Or.inl ⟨F0,?_⟩) hH ?_ ?_
          rotate_left
          ·rintro w' ⟨s0,s1,s2,s3,s4,s5,s6,s7,s8,s9,s10,s11,s12,s13,s14,s15,s16,s17⟩
           go_simp
           with_reducible rfl
          rotate_left
          ·simp only[Act.put,kss,i64_w,i32_w]
           rfl
          clear hK Kc
          refine one_ (i:=32) (N:=some 101) #[true,true,true,true,true,true,true,true,true,true,true,true,true,true,true,true,true,true,true,true,true,true,true,true,true,true,true,true,true,true,true,true,true,false,false,false,false,false,false,false,false,false,false,false,false,false,false,false,false,false,false] rfl rfl (one_of HT_.out Y0) X0 (fun Kc hK=>?_)
          refine kgo Tryz.func28 #[.agg #[.bool z89,.slice P96 x90.length c97],.agg #[.bool z103,.slice am ag.length an]] F0 rfl rfl ?_
          refine(whole_Cmp.calls _ z89 _ _ x90 z103 _ _ ag aj _ (K.C 8 X1) (K.le 8 X1) (K.C 9 X1) (K.le 9 X1) aU.out).mono ?_
          rintro e W' ⟨rfl,hb⟩
          replace K:=K.up hb
          clear hb
          refine⟨_,rfl,hK.out _ _ (HS.out _ _ _ _ K) fun hH=>?_⟩
          refine norm_ (a':=?_) ?_ ?_
          rotate_left
          ·show Act.put _ (some 101) _=_
           simp only[Act.put,kss,i64_w,i32_w]
           rfl
          refine pure_ (i:=33) (N:=some 102) (v:=?_) (a':=?_) #[true,true,true,true,true,true,true,true,true,true,true,true,true,true,true,true,true,true,true,true,true,true,true,true,true,true,true,true,true,true,true,true,true,true,false,false,false,false,false,false,false,false,false,false,false,false,false,false,false,false,false] rfl rfl (any_of HT_.out Y0) (fun _ _ _ h=>h) (Or.inl ⟨F0,?_⟩) ?_ ?_
          rotate_left
          ·intro w'
           go_simp
           with_reducible rfl
          rotate_left
          ·simp only[Act.put,kss,i64_w,i32_w]
           rfl
          refine pure_ (i:=34) (N:=some 103) (v:=?_) (a':=?_) #[true,true,true,true,true,true,true,true,true,true,true,true,true,true,true,true,true,true,true,true,true,true,true,true,true,true,true,true,true,true,true,true,true,true,true,false,false,false,false,false,false,false,false,false,false,false,false,false,false,false,false] rfl rfl (any_of HT_.out Y0) (fun _ _ _ h=>h) (Or.inl ⟨F0,?_⟩) ?_ ?_
          rotate_left
          ·intro w'
           go_simp
           with_reducible rfl
          rotate_left
          ·simp only[Act.put,kss,i64_w,i32_w]
           rfl
          refine pure_ (i:=35) (N:=some 104) (v:=?_) (a':=?_) #[true,true,true,true,true,true,true,true,true,true,true,true,true,true,true,true,true,true,true,true,true,true,true,true,true,true,true,true,true,true,true,true,true,true,true,true,false,false,false,false,false,false,false,false,false,false,false,false,false,false,false] rfl rfl (any_of HT_.out Y0) (fun _ _ _ h=>h) (Or.inl ⟨F0,?_⟩) ?_ ?_
          rotate_left
          ·intro w'
           go_simp
           with_reducible rfl
          rotate_left
          ·simp only[Act.put,kss,i64_w,i32_w]
           rfl
          refine pure_ (i:=36) (N:=some 105) (v:=?_) (a':=?_) #[true,true,true,true,true,true,true,true,true,true,true,true,true,true,true,true,true,true,true,true,true,true,true,true,true,true,true,true,true,true,true,true,true,true,true,true,true,false,false,false,false,false,false,false,false,false,false,false,false,false,false] rfl rfl (any_of HT_.out Y0) (fun _ _ _ h=>h) (Or.inl ⟨F0,?_⟩) ?_ ?_
          rotate_left
          ·intro w'
           go_simp
           with_reducible rfl
          rotate_left
          ·simp only[Act.put,kss,i64_w,i32_w]
           rfl
          refine pure_ (i:=37) (N:=some 106) (v:=?_) (a':=?_) #[true,true,true,true,true,true,true,true,true,true,true,true,true,true,true,true,true,true,true,true,true,true,true,true,true,true,true,true,true,true,true,true,true,true,true,true,true,true,false,false,false,false,false,false,false,false,false,false,false,false,false] rfl rfl (any_of HT_.out Y0) (fun _ _ _ h=>h) (Or.inl ⟨F0,?_⟩) ?_ ?_
          rotate_left
          ·intro w'
           go_simp
           with_reducible rfl
          rotate_left
          ·simp only[Act.put,kss,i64_w,i32_w]
           rfl
          refine pure_ (i:=38) (N:=some 107) (v:=?_) (a':=?_) #[true,true,true,true,true,true,true,true,true,true,true,true,true,true,true,true,true,true,true,true,true,true,true,true,true,true,true,true,true,true,true,true,true,true,true,true,true,true,true,false,false,false,false,false,false,false,false,false,false,false,false] rfl rfl (any_of HT_.out Y0) (fun _ _ _ h=>h) (Or.inl ⟨F0,?_⟩) ?_ ?_
          rotate_left
          ·intro w'
           go_simp
           with_reducible rfl
          rotate_left
          ·simp only[Act.put,kss,i64_w,i32_w]
           rfl
          refine pure_ (i:=39) (N:=some 108) (v:=?_) (a':=?_) #[true,true,true,true,true,true,true,true,true,true,true,true,true,true,true,true,true,true,true,true,true,true,true,true,true,true,true,true,true,true,true,true,true,true,true,true,true,true,true,true,false,false,false,false,false,false,false,false,false,false,false] rfl rfl (any_of HT_.out Y0) (fun _ _ _ h=>h) (Or.inl ⟨F0,?_⟩) ?_ ?_
          rotate_left
          ·intro w'
           go_simp
           with_reducible rfl
          rotate_left
          ·simp only[Act.put,kss,i64_w,i32_w]
           rfl
          refine pure_ (i:=40) (N:=some 109) (v:=?_) (a':=?_) #[true,true,true,true,true,true,true,true,true,true,true,true,true,true,true,true,true,true,true,true,true,true,true,true,true,true,true,true,true,true,true,true,true,true,true,true,true,true,true,true,true,false,false,false,false,false,false,false,false,false,false] rfl rfl (any_of HT_.out Y0) (fun _ _ _ h=>h) (Or.inl ⟨F0,?_⟩) ?_ ?_
          rotate_left
          ·intro w'
           go_simp
           with_reducible rfl
          rotate_left
          ·simp only[Act.put,kss,i64_w,i32_w]
           rfl
          refine take_ (i:=41) (N:=some 110) (v:=?_) (a':=?_) #[true,true,true,true,true,true,true,true,true,true,true,true,true,true,true,true,true,true,true,true,true,true,true,true,true,true,true,true,true,true,true,true,true,true,true,true,true,true,true,true,true,true,false,false,false,false,false,false,false,false,false] rfl rfl (take_ofW HT_.out HW_.out Y0) (fun _ _ _ h=>h) (Or.inl ⟨F0,?_⟩) hH ?_ ?_
          rotate_left
          ·rintro w' ⟨s0,s1,s2,s3,s4,s5,s6,s7,s8,s9,s10,s11,s12,s13,s14,s15,s16,s17⟩
           go_simp
           with_reducible rfl
          rotate_left
          ·simp only[Act.put,kss,i64_w,i32_w]
           rfl
          refine take_ (i:=43) (N:=some 112) (v:=?_) (a':=?_) #[true,true,true,true,true,true,true,true,true,true,true,true,true,true,true,true,true,true,true,true,true,true,true,true,true,true,true,true,true,true,true,true,true,true,true,true,true,true,true,true,true,true,false,true,false,false,false,false,false,false,false] rfl rfl (take_ofW HT_.out HW_.out Y0) (fun _ _ _ h=>h) (Or.inl ⟨F0,?_⟩) hH ?_ ?_
          rotate_left
          ·rintro w' ⟨s0,s1,s2,s3,s4,s5,s6,s7,s8,s9,s10,s11,s12,s13,s14,s15,s16,s17⟩
           go_simp
           with_reducible rfl
          rotate_left
          ·simp only[Act.put,kss,i64_w,i32_w]
           rfl
          clear hK Kc
          refine one_ (i:=42) (N:=some 111) #[true,true,true,true,true,true,true,true,true,true,true,true,true,true,true,true,true,true,true,true,true,true,true,true,true,true,true,true,true,true,true,true,true,true,true,true,true,true,true,true,true,true,true,true,false,false,false,false,false,false,false] rfl rfl (one_of HT_.out Y0) X0 (fun Kc hK=>?_)
          refine kgo Tryz.func29 #[.agg #[.int .i64 ab,.slice ac aa.length ad]] F0 rfl rfl ?_
          refine(bits_Right.calls _ ab _ _ aa z125 _ (K.C 1 X1) (K.le 1 X1) aV.out).mono ?_
          rintro e W' ⟨rfl,hb⟩
          replace K:=K.up hb
          clear hb
          refine⟨_,rfl,hK.out _ _ (HS.out _ _ _ _ K) fun hH=>?_⟩
          clear hK Kc
          refine norm_ (a':=?_) ?_ ?_
          rotate_left
          ·show Act.put _ (some 111) _=_
           simp only[Act.put,kss,i64_w,i32_w]
           rfl
          refine one_ (i:=44) (N:=some 113) #[true,true,true,true,true,true,true,true,true,true,true,true,true,true,true,true,true,true,true,true,true,true,true,true,true,true,true,true,true,true,true,true,true,true,true,true,true,true,true,true,true,true,true,true,true,false,false,false,false,false,false] rfl rfl (one_of HT_.out Y0) X0 (fun Kc hK=>?_)
          refine kgo Tryz.func30 #[.agg #[.int .i64 ab,.slice ac aa.length ad]] F0 rfl rfl ?_
          refine(tribunalref09_Right.calls _ ab _ _ aa z127 _ (K.C 1 X1) (K.le 1 X1) aW.out).mono ?_
          rintro e W' ⟨rfl,hb⟩
          replace K:=K.up hb
          clear hb
          refine⟨_,rfl,hK.out _ _ (HS.out _ _ _ _ K) fun hH=>?_⟩
          refine norm_ (a':=?_) ?_ ?_
          rotate_left
          ·show Act.put _ (some 113) _=_
           simp only[Act.put,kss,i64_w,i32_w]
           rfl
          refine pure_ (i:=45) (N:=some 114) (v:=?_) (a':=?_) #[true,true,true,true,true,true,true,true,true,true,true,true,true,true,true,true,true,true,true,true,true,true,true,true,true,true,true,true,true,true,true,true,true,true,true,true,true,true,true,true,true,true,true,true,true,true,false,false,false,false,false] rfl rfl (any_of HT_.out Y0) (fun _ _ _ h=>h) (Or.inl ⟨F0,?_⟩) ?_ ?_
          rotate_left
          ·intro w'
           go_simp
           with_reducible rfl
          rotate_left
          ·simp only[Act.put,kss,i64_w,i32_w]
           rfl
          refine pure_ (i:=46) (N:=some 115) (v:=?_) (a':=?_) #[true,true,true,true,true,true,true,true,true,true,true,true,true,true,true,true,true,true,true,true,true,true,true,true,true,true,true,true,true,true,true,true,true,true,true,true,true,true,true,true,true,true,true,true,true,true,true,false,false,false,false] rfl rfl (any_of HT_.out Y0) (fun _ _ _ h=>h) (Or.inl ⟨F0,?_⟩) ?_ ?_
          rotate_left
          ·intro w'
           go_simp
           with_reducible rfl
          rotate_left
          ·simp only[Act.put,kss,i64_w,i32_w]
           rfl
          refine pure_ (i:=47) (N:=some 116) (v:=?_) (a':=?_) #[true,true,true,true,true,true,true,true,true,true,true,true,true,true,true,true,true,true,true,true,true,true,true,true,true,true,true,true,true,true,true,true,true,true,true,true,true,true,true,true,true,true,true,true,true,true,true,true,false,false,false] rfl rfl (any_of HT_.out Y0) (fun _ _ _ h=>h) (Or.inl ⟨F0,?_⟩) ?_ ?_
          rotate_left
          ·intro w'
           go_simp
           with_reducible rfl
          rotate_left
          ·simp only[Act.put,kss,i64_w,i32_w]
           rfl
          clear hK Kc
          refine one_ (i:=48) (N:=some 117) #[true,true,true,true,true,true,true,true,true,true,true,true,true,true,true,true,true,true,true,true,true,true,true,true,true,true,true,true,true,true,true,true,true,true,true,true,true,true,true,true,true,true,true,true,true,true,true,true,true,false,false] rfl rfl (one_of HT_.out Y0) X0 (fun Kc hK=>?_)
          refine kgo Tryz.func14 #[] F0 rfl rfl ?_
          refine(tribunallaw09_alive.calls _ z129 _ aY.out).mono ?_
          rintro e W' ⟨rfl,hb⟩
          replace K:=K.up hb
          clear hb
          refine⟨_,rfl,hK.out _ _ (HS.out _ _ _ _ K) fun hH=>?_⟩
          refine norm_ (a':=?_) ?_ ?_
          rotate_left
          ·show Act.put _ (some 117) _=_
           simp only[Act.put,kss,i64_w,i32_w]
           rfl
          refine pure_ (i:=49) (N:=some 118) (v:=?_) (a':=?_) #[true,true,true,true,true,true,true,true,true,true,true,true,true,true,true,true,true,true,true,true,true,true,true,true,true,true,true,true,true,true,true,true,true,true,true,true,true,true,true,true,true,true,true,true,true,true,true,true,true,true,false] rfl rfl (any_of HT_.out Y0) (fun _ _ _ h=>h) (Or.inl ⟨F0,?_⟩) ?_ ?_
          rotate_left
          ·intro w'
           go_simp
           with_reducible rfl
          rotate_left
          ·simp only[Act.put,kss,i64_w,i32_w]
           rfl
          refine pure_ (i:=50) (N:=some 8) (v:=?_) (a':=?_) #[true,true,true,true,true,true,true,true,true,true,true,true,true,true,true,true,true,true,true,true,true,true,true,true,true,true,true,true,true,true,true,true,true,true,true,true,true,true,true,true,true,true,true,true,true,true,true,true,true,true,true] rfl rfl (any_of HT_.out Y0) (fun _ _ _ h=>h) (Or.inl ⟨F0,?_⟩) ?_ ?_
          rotate_left
          ·intro w'
           go_simp
           with_reducible rfl
          rotate_left
          ·simp only[Act.put,kss,i64_w,i32_w]
           rfl
          clear hK Kc
          rw[hBs.out,hVs.out,hOs.out]at K
          simp only[kls,klv]at K
          clear hBs hVs hOs HS hH
          refine done_ (done_of HT_.out Y0) ?_
          clear HT_ HW_
          simp only[Option.some.injEq]at h
          subst h
          go_wp2
          go_ret
          exact⟨rfl,K.u.below⟩
         rw[if_neg c_8]at h
         replace c_8:=Bool.eq_false_iff.mpr c_8
         have aX:decide (z125=z127)=false:=by simpa using c_8
         exact nomatch h
        rw[if_neg c_7]at h
        have aN:(n91==ah)=false:=beq_eq_false_iff_ne.mpr c_7
        have aO:(n91 != ah)=true:=bne_iff_ne.mpr c_7
        clear c_7
        exact nomatch h
       rw[if_neg c_6]at h
       have aL:(aj==0)=false:=beq_eq_false_iff_ne.mpr c_6
       have aM:(aj != 0)=true:=bne_iff_ne.mpr c_6
       clear c_6
       exact nomatch h
      rw[if_neg c_5]at h
      have aJ:(n63==n77)=false:=beq_eq_false_iff_ne.mpr c_5
      have aK:(n63 != n77)=true:=bne_iff_ne.mpr c_5
      clear c_5
      exact nomatch h
     rw[if_neg c_4]at h
     have aH:(ai==0)=false:=beq_eq_false_iff_ne.mpr c_4
     have aI:(ai != 0)=true:=bne_iff_ne.mpr c_4
     clear c_4
     exact nomatch h
    rw[if_neg c_3]at h
    have aF:(n35==n49)=false:=beq_eq_false_iff_ne.mpr c_3
    have aG:(n35 != n49)=true:=bne_iff_ne.mpr c_3
    clear c_3
    exact nomatch h
   replace c_2:=Bool.eq_false_iff.mpr c_2
   subst c_2
   rw[if_neg X0]at h
   exact nomatch h
  rw[if_neg c_1]at h
  have aD:(n7==n21)=false:=beq_eq_false_iff_ne.mpr c_1
  have aE:(n7 != n21)=true:=bne_iff_ne.mpr c_1
  clear c_1
  exact nomatch h
 replace c_0:=Bool.eq_false_iff.mpr c_0
 subst c_0
 rw[if_neg X0]at h
 exact nomatch h
end Go.Proofs.YtncomlmhagaajaaGreat.PBo
namespace Go.Proofs.YtncomlmhagaajaaGreat.PBo
open Go.RowKit Go.Proofs.YtncomlmhagaajaaGreatW.PrintWords Go.Proofs.YtncomlmhagaajaaGreatW.PrintLast Go.Proofs.YtncomlmhagaajaaGreatW.PrintMore
open Go.Proofs.YtncomlmhagaajaaGreat.Mine
attribute [local go_sem] max2_int min2_int max_two min_two max_three min_three max_four min_four
def whole_Sign.f (k:Nat) (a0_0:Bool) (l0_1:List Int):Option (Int):=(whole_of.f k a0_0 l0_1).bind fun bt308=>((whole_number_cmp.f k bt308.1 bt308.2 ([]:List Int) false).bind fun t312=>(some t312))
end Go.Proofs.YtncomlmhagaajaaGreat.PBo
namespace Go.Proofs.YtncomlmhagaajaaGreat.Big
def val (B:Int):List Int→Int
 | []=>0
 | x::xs=>x+B*val B xs
def Dig (B:Int) (l:List Int):Prop:=∀x∈l,0≤x∧x<B
def Top:List Int→Prop
 | []=>True
 | [x]=>x≠0
 | _::y::l=>Top (y::l)
theorem Dig.nil {B:Int}:Dig B []:=fun _ h=>by cases h
theorem Dig.cons {B x:Int} {l:List Int}:Dig B (x::l)↔(0≤x∧x<B)∧Dig B l:=by
 simp[Dig]
theorem Dig.append {B:Int} {a b:List Int}:Dig B (a++b)↔Dig B a∧Dig B b:=by
 simp only[Dig,List.mem_append]
 exact⟨fun h=>⟨fun x hx=>h x (.inl hx),fun x hx=>h x (.inr hx)⟩,fun h x hx=>hx.elim (h.1 x) (h.2 x)⟩
theorem Dig.take {B:Int} {a:List Int} (h:Dig B a) (n:Nat):Dig B (a.take n):=fun x hx=>h x (List.mem_of_mem_take hx)
theorem Dig.drop {B:Int} {a:List Int} (h:Dig B a) (n:Nat):Dig B (a.drop n):=fun x hx=>h x (List.mem_of_mem_drop hx)
theorem Dig.set {B:Int} {a:List Int} (h:Dig B a) (n:Nat) {v:Int} (hv:0≤v∧v<B):Dig B (a.set n v):=fun x hx=>by
 rcases List.mem_or_eq_of_mem_set hx with hx|rfl
 ·exact h x hx
 exact hv
theorem Dig.rep {B:Int} (hB:0<B) (n:Nat):Dig B (List.replicate n 0):=fun x hx=>by
 have:=List.eq_of_mem_replicate hx;omega
theorem Dig.get {B:Int} {a:List Int} (h:Dig B a) (i:Nat) (hi:i<a.length):0≤a[i]∧a[i]<B:=h _ (List.getElem_mem hi)
theorem val_append (B:Int) (a b:List Int):val B (a++b)=val B a+B^a.length*val B b:=by
 induction a with
 | nil=>simp[val]
 | cons x a ih=>simp only[List.cons_append,val,ih,List.length_cons,Int.pow_succ];grind
theorem val_replicate (B:Int) (n:Nat):val B (List.replicate n 0)=0:=by
 induction n with
 | zero=>rfl
 | succ n ih=>simp[List.replicate_succ,val,ih]
theorem pow_pos {B:Int} (hB:0<B) (n:Nat):0<B^n:=Int.pow_pos hB
theorem val_nonneg {B:Int} (hB:0<B) {l:List Int} (h:Dig B l):0≤val B l:=by
 induction l with
 | nil=>simp[val]
 | cons x l ih=>
  rw[Dig.cons]at h
  have:=ih h.2
  have:=Int.mul_nonneg (Int.le_of_lt hB) this
  simp only[val];omega
theorem val_lt {B:Int} (hB:0<B) {l:List Int} (h:Dig B l):val B l<B^l.length:=by
 induction l with
 | nil=>simp[val]
 | cons x l ih=>
  rw[Dig.cons]at h
  have h1:=ih h.2
  have h2:B*(val B l+1)≤B*B^l.length:=Int.mul_le_mul_of_nonneg_left Z0 Z0
  simp only[val,List.length_cons,Int.pow_succ]
  grind
theorem val_set (B:Int) (l:List Int) (i:Nat) (v:Int) (hi:i<l.length):val B (l.set i v)=val B l+(v-l[i])*B^i:=by
 induction l generalizing i with
 | nil=>simp at hi
 | cons x l ih=>
  cases i with
  | zero=>simp only[List.set_cons_zero,val,List.getElem_cons_zero,Int.pow_zero];omega
  | succ i=>
   simp only[List.set_cons_succ,val,List.getElem_cons_succ,Int.pow_succ]
   rw[ih i (by simpa using hi)]
   grind
theorem val_take_succ (B:Int) (l:List Int) (i:Nat) (hi:i<l.length):val B (l.take (i+1))=val B (l.take i)+l[i]*B^i:=by
 rw[List.take_succ_eq_append_getElem hi,val_append]
 simp[val,List.length_take,Nat.min_eq_left (Nat.le_of_lt hi),Int.mul_comm]
theorem val_split (B:Int) (l:List Int) (i:Nat) (hi:i≤l.length):val B l=val B (l.take i)+B^i*val B (l.drop i):=by
 have:=val_append B (l.take i) (l.drop i)
 rw[List.take_append_drop,List.length_take,Nat.min_eq_left hi]at this
 exact this
theorem val_snoc (B:Int) (l:List Int) (x:Int):val B (l++[x])=val B l+x*B^l.length:=by
 rw[val_append];simp[val,Int.mul_comm]
theorem Top.cons {x y:Int} {l:List Int}:Top (x::y::l)↔Top (y::l):=Iff.rfl
theorem Top_iff (l:List Int):Top l↔∀h:l≠[],l.getLast h≠0:=by
 induction l with
 | nil=>simp[Top]
 | cons x l ih=>
  cases l with
  | nil=>simp[Top]
  | cons y l=>rw[Top.cons,ih];exact⟨fun h _=>by simpa using h Z1,fun h _=>by simpa using h Z1⟩
theorem Top_snoc {l:List Int} {x:Int} (h:x≠0):Top (l++[x]):=by
 rw[Top_iff];intro _;simpa using h
theorem uniq {B:Int} (hB:1<B):∀ {a b:List Int},Dig B a→Dig B b→Top a→Top b→val B a=val B b→a=b:=by
 have key:∀ {b:List Int},Dig B b→Top b→val B b=0→b=[]:=by
  intro b
  induction b with
  | nil=>intros;rfl
  | cons y b ih=>
   intro hd ht hv
   rw[Dig.cons]at hd
   simp only[val]at hv
   have h0:=val_nonneg Z0 hd.2
   have h1:=Int.mul_nonneg (show 0≤B by omega) h0
   have h2:B*val B b=0:=by omega
   have h3:val B b=0:=by rcases Int.mul_eq_zero.1 h2 with h|h<;>omega
   cases b with
   | nil=>exfalso;simp only[Top]at ht;omega
   | cons z b=>have:=ih hd.2 ht h3;cases this
 intro a
 induction a with
 | nil=>
  intro b _ hb _ tb h
  exact(key hb tb h.symm).symm
 | cons x a ih=>
  intro b ha hb ta tb h
  cases b with
  | nil=>exact key ha ta h
  | cons y b=>
   rw[Dig.cons]at ha hb
   simp only[val]at h
   have e1:x=y:=by
    have h1:(x+B*val B a)%B=x:=by rw[Int.add_mul_emod_self_left];exact Int.emod_eq_of_lt ha.1.1 ha.1.2
    have h2:(y+B*val B b)%B=y:=by rw[Int.add_mul_emod_self_left];exact Int.emod_eq_of_lt hb.1.1 hb.1.2
    rw[←h1,←h2,h]
   subst e1
   have e2:val B a=val B b:=by
    have:B*val B a=B*val B b:=by omega
    exact Int.eq_of_mul_eq_mul_left Z0 this
   have ta':Top a:=by cases a with|nil=>trivial|cons=>exact ta
   have tb':Top b:=by cases b with|nil=>trivial|cons=>exact tb
   rw[ih ha.2 hb.2 ta' tb' e2]
theorem low {B:Int} (hB:0<B) {l:List Int} (h:Dig B l) (t:Top l) (hne:l≠[]):B^(l.length-1)≤val B l:=by
 induction l with
 | nil=>exact absurd rfl hne
 | cons x l ih=>
  rw[Dig.cons]at h
  cases l with
  | nil=>simp only[Top]at t;simp[val];omega
  | cons y l=>
   have:=ih h.2 t Z1
   simp only[List.length_cons,Nat.add_sub_cancel]at this ⊢
   simp only[val]at this ⊢
   have:=Int.mul_le_mul_of_nonneg_left this (Int.le_of_lt hB)
   rw[Int.pow_succ,Int.mul_comm]
   omega
structure Rep (B:Int) (n:Int) (l:List Int):Prop where
 dig:Dig B l
 top:Top l
 val:val B l=n
theorem Rep.uniq {B n:Int} (hB:1<B) {a b:List Int} (ha:Rep B n a) (hb:Rep B n b):a=b:=
 Big.uniq hB ha.dig hb.dig ha.top hb.top (ha.val.trans hb.val.symm)
theorem Rep.nonneg {B n:Int} (hB:0<B) {a:List Int} (ha:Rep B n a):0≤n:=ha.val ▸ val_nonneg hB ha.dig
theorem Rep.lt {B n:Int} (hB:0<B) {a:List Int} (ha:Rep B n a):n<B^a.length:=ha.val ▸ val_lt hB ha.dig
theorem Rep.low {B n:Int} (hB:0<B) {a:List Int} (ha:Rep B n a) (h:a≠[]):B^(a.length-1)≤n:=ha.val ▸ Big.low hB ha.dig ha.top h
theorem Rep.nil_iff {B n:Int} (hB:0<B) {a:List Int} (ha:Rep B n a):a=[]↔n=0:=by
 constructor
 ·rintro rfl;exact ha.val.symm
 intro h
 rcases Classical.em (a=[]) with e|e
 ·exact e
 have:=ha.low hB e;have:=pow_pos hB (a.length-1);omega
end Go.Proofs.YtncomlmhagaajaaGreat.Big
namespace Go.Proofs.YtncomlmhagaajaaGreat.PurePBo
open Go.RowKit Go.Proofs.YtncomlmhagaajaaGreatW.PrintWords Go.Proofs.YtncomlmhagaajaaGreatW.PrintLast Go.Proofs.YtncomlmhagaajaaGreatW.PrintMore Go.Proofs.YtncomlmhagaajaaGreat.PBo Go.Proofs.YtncomlmhagaajaaGreat Go.Proofs.YtncomlmhagaajaaGreat.Mine
open Big
def Ev {α:Type} (f:Nat→Option α) (r:α):Prop:=∃K,∀k,K≤k→f k=some r
theorem up {α:Type} {f:Nat→Option α} (mono:∀k,LeO (f k) (f (k+1))) {k:Nat} {r:α} (h:f k=some r):∀j,k≤j→f j=some r:=by
 intro j hj
 induction hj with
 | refl=>exact h
 | step _ ih=>exact mono _ _ ih
theorem Ev.of {α:Type} {f:Nat→Option α} (mono:∀k,LeO (f k) (f (k+1))) {k:Nat} {r:α} (h:f k=some r):Ev f r:=⟨k,up mono h⟩
theorem Ev.bind {α β:Type} {f:Nat→Option α} {a:α} (h:Ev f a) {g:Nat→α→Option β} {b:β} (hg:Ev (fun k=>g k a) b):Ev (fun k=>(f k).bind (g k)) b:=by
 obtain⟨K1,h1⟩:=h
 obtain⟨K2,h2⟩:=hg
 exact⟨max K1 K2,fun k hk=>by show(f k).bind (g k)=_;rw[h1 k Z0];exact h2 k Z0⟩
theorem rd_nat (l:List Int) (n:Nat) (h:n<l.length):rd l (n:Int)=l[n]:=by
 simp[rd,List.getD_eq_getElem?_getD,List.getElem?_eq_getElem h]
theorem w64 (n:Int) (h:-9223372036854775808≤n∧n≤9223372036854775807):wrap64 n=n:=IntWalk.wrap64_in n h
theorem whole_trimmed_l0 (l:List Int) (hl:l.length<9223372036854775807):∀(n k:Nat),n≤l.length→n<k→∃m,m≤n∧whole_trimmed.l0 k l (n:Int)=some (l.take m)∧Top (l.take m)∧∀B,val B (l.take m)=val B (l.take n):=by
 intro n
 induction n with
 | zero=>
  intro k _ hk
  obtain⟨k,rfl⟩:∃j,k=j+1:=⟨k-1,Z0⟩
  refine⟨0,Nat.le_refl _,?_,by simp[Top],fun _=>rfl⟩
  simp only[whole_trimmed.l0]
  rw[if_neg Z0,if_pos Z0,if_pos Z0]
  rfl
 | succ n ih=>
  intro k hn hk
  obtain⟨k,rfl⟩:∃j,k=j+1:=⟨k-1,Z0⟩
  have hw:wrap64 (((n+1:Nat):Int)-1)=(n:Int):=by rw[w64 _ Z0];omega
  simp only[whole_trimmed.l0]
  rw[hw,if_pos Z0,if_pos Z0,if_pos Z0,rd_nat l n Z0]
  by_cases h0:l[n]=0
  ·obtain⟨m,hm,he,ht,hv⟩:=ih k Z0 Z0
   refine⟨m,Z0,by rw[if_pos h0];exact he,ht,fun B=>?_⟩
   rw[hv B,val_take_succ B l n Z0,h0];simp
  refine⟨n+1,Nat.le_refl _,?_,?_,fun _=>rfl⟩
  ·rw[if_neg h0,if_pos Z0,if_pos Z0];congr 1
  rw[List.take_succ_eq_append_getElem Z0];exact Top_snoc h0
theorem whole_trimmed_ev {B:Int} {l:List Int} (hl:l.length<9223372036854775807) (hd:Dig B l):∃r,Ev (fun k=>whole_trimmed.f k l) r∧Dig B r∧Top r∧val B r=val B l:=by
 obtain⟨m,hm,he,ht,hv⟩:=whole_trimmed_l0 l hl l.length (l.length+1) (Nat.le_refl _) Z0
 refine⟨l.take m,Ev.of (fun k=>whole_trimmed.mono l k) he,hd.take m,ht,?_⟩
 rw[hv B,List.take_length]
theorem tribunalref02_trim_l0 (l:List Int) (hl:l.length<9223372036854775807):∀(n k:Nat),n≤l.length→n<k→∃m,m≤n∧tribunalref02_trim.l0 k l (n:Int)=some (l.take m)∧Top (l.take m)∧∀B,val B (l.take m)=val B (l.take n):=by
 intro n
 induction n with
 | zero=>
  intro k _ hk
  obtain⟨k,rfl⟩:∃j,k=j+1:=⟨k-1,Z0⟩
  refine⟨0,Nat.le_refl _,?_,by simp[Top],fun _=>rfl⟩
  simp only[tribunalref02_trim.l0]
  rw[if_neg Z0,if_pos Z0,if_pos Z0]
  rfl
 | succ n ih=>
  intro k hn hk
  obtain⟨k,rfl⟩:∃j,k=j+1:=⟨k-1,Z0⟩
  have hw:wrap64 (((n+1:Nat):Int)-1)=(n:Int):=by rw[w64 _ Z0];omega
  simp only[tribunalref02_trim.l0]
  rw[hw,if_pos Z0,if_pos Z0,if_pos Z0,rd_nat l n Z0]
  by_cases h0:l[n]=0
  ·obtain⟨m,hm,he,ht,hv⟩:=ih k Z0 Z0
   refine⟨m,Z0,by rw[if_pos h0];exact he,ht,fun B=>?_⟩
   rw[hv B,val_take_succ B l n Z0,h0];simp
  refine⟨n+1,Nat.le_refl _,?_,?_,fun _=>rfl⟩
  ·rw[if_neg h0,if_pos Z0,if_pos Z0];congr 1
  rw[List.take_succ_eq_append_getElem Z0];exact Top_snoc h0
theorem tribunalref02_trim_ev {B:Int} {l:List Int} (hl:l.length<9223372036854775807) (hd:Dig B l):∃r,Ev (fun k=>tribunalref02_trim.f k l) r∧Dig B r∧Top r∧val B r=val B l:=by
 obtain⟨m,hm,he,ht,hv⟩:=tribunalref02_trim_l0 l hl l.length (l.length+1) (Nat.le_refl _) Z0
 refine⟨l.take m,Ev.of (fun k=>tribunalref02_trim.mono l k) he,hd.take m,ht,?_⟩
 rw[hv B,List.take_length]
end Go.Proofs.YtncomlmhagaajaaGreat.PurePBo
namespace Go.Proofs.YtncomlmhagaajaaGreat.PurePBo
open Go.RowKit Go.Proofs.YtncomlmhagaajaaGreatW.PrintWords Go.Proofs.YtncomlmhagaajaaGreatW.PrintLast Go.Proofs.YtncomlmhagaajaaGreatW.PrintMore Go.Proofs.YtncomlmhagaajaaGreat.PBo Go.Proofs.YtncomlmhagaajaaGreat Go.Proofs.YtncomlmhagaajaaGreat.Mine Big
theorem and32 (x:Int) (h:0≤x∧x<18446744073709551616):Go.bits .and .u64 x 4294967295=x%4294967296:=by
 obtain⟨n,rfl⟩:=Int.eq_ofNat_of_zero_le h.1
 have:=bits_and_u64_nat n 4294967295 Z0 X0
 rw[show((4294967295:Nat):Int)=4294967295 from rfl]at this
 rw[this,show(4294967295:Nat)=2^32-1 from by decide,Nat.and_two_pow_sub_one_eq_mod]
 omega
theorem mul_bound {x y M:Int} (hx:0≤x∧x≤M) (hy:0≤y∧y≤M):0≤x*y∧x*y≤M*M:=
 ⟨Int.mul_nonneg hx.1 hy.1,Int.mul_le_mul hx.2 hy.2 hy.1 Z0⟩
theorem Mul64_eq (x y:Int) (hx:0≤x∧x<18446744073709551616) (hy:0≤y∧y<18446744073709551616):bits_Mul64.f x y=some (x*y/18446744073709551616,x*y%18446744073709551616):=by
 unfold bits_Mul64.f
 rw[and32 x hx,and32 y hy]
 obtain⟨x1,hx1⟩:∃z,z=x/4294967296:=⟨_,rfl⟩
 obtain⟨x0,hx0⟩:∃z,z=x%4294967296:=⟨_,rfl⟩
 obtain⟨y1,hy1⟩:∃z,z=y/4294967296:=⟨_,rfl⟩
 obtain⟨y0,hy0⟩:∃z,z=y%4294967296:=⟨_,rfl⟩
 rw[←hx1,←hx0,←hy1,←hy0]
 have ex:x=4294967296*x1+x0:=by omega
 have ey:y=4294967296*y1+y0:=by omega
 have bx1:0≤x1∧x1≤4294967295:=by omega
 have bx0:0≤x0∧x0≤4294967295:=by omega
 have by1:0≤y1∧y1≤4294967295:=by omega
 have by0:0≤y0∧y0≤4294967295:=by omega
 have p11:=mul_bound bx1 by1
 have p10:=mul_bound bx1 by0
 have p01:=mul_bound bx0 by1
 have p00:=mul_bound bx0 by0
 have exy:x*y=18446744073709551616*(x1*y1)+4294967296*(x1*y0)+4294967296*(x0*y1)+x0*y0:=by rw[ex,ey];grind
 generalize x1*y1=a11 at *
 generalize x1*y0=a10 at *
 generalize x0*y1=a01 at *
 generalize x0*y0=a00 at *
 generalize x*y=xy at *
 clear hx1 hx0 hy1 hy0 ex ey
 have w0:IntKind.u64.wrap a00=a00:=by rw[IntKind.wrap_u64];omega
 have w1:IntKind.u64.wrap a10=a10:=by rw[IntKind.wrap_u64];omega
 have w2:IntKind.u64.wrap a01=a01:=by rw[IntKind.wrap_u64];omega
 have w3:IntKind.u64.wrap a11=a11:=by rw[IntKind.wrap_u64];omega
 rw[w0,w1,w2,w3]
 have w4:IntKind.u64.wrap (a10+a00/4294967296)=a10+a00/4294967296:=by rw[IntKind.wrap_u64];omega
 rw[w4,and32 _ Z0]
 have w5:IntKind.u64.wrap ((a10+a00/4294967296)%4294967296+a01)=(a10+a00/4294967296)%4294967296+a01:=by rw[IntKind.wrap_u64];omega
 rw[w5]
 simp only[IntKind.wrap_u64,Option.some.injEq,Prod.mk.injEq]
 refine⟨?_,trivial⟩
 obtain⟨t,ht⟩:∃t,t=a10+a00/4294967296:=⟨_,rfl⟩
 rw[←ht]
 obtain⟨q,hq⟩:∃q,q=t/4294967296:=⟨_,rfl⟩
 obtain⟨m,hm⟩:∃m,m=t%4294967296:=⟨_,rfl⟩
 rw[←hq,←hm]
 obtain⟨u,hu⟩:∃u,u=(m+a01)/4294967296:=⟨_,rfl⟩
 rw[←hu]
 have b1:0≤q∧q≤4294967295:=by omega
 have b2:0≤u∧u≤4294967295:=by omega
 have e2:xy/18446744073709551616=a11+q+u:=by
  have:xy=18446744073709551616*(a11+q+u)+(4294967296*((m+a01)%4294967296)+a00%4294967296):=by omega
  omega
 rw[e2,Int.emod_eq_of_lt Z0 Z0,Int.emod_eq_of_lt Z0 Z0]
theorem limb4 (x:Int) (h:0≤x∧x<18446744073709551616):val 65536 [IntKind.u16.wrap x,IntKind.u16.wrap (x/65536),IntKind.u16.wrap (x/4294967296),IntKind.u16.wrap (x/281474976710656)]=x∧Dig 65536 [IntKind.u16.wrap x,IntKind.u16.wrap (x/65536),IntKind.u16.wrap (x/4294967296),IntKind.u16.wrap (x/281474976710656)]:=by
 simp only[IntKind.wrap_u16,val,Dig.cons]
 refine⟨Z0,Z0,Z0,Z0,Z0,Dig.nil⟩
theorem pow4:(18446744073709551616:Int)=65536^4:=by decide
theorem From_l0 (s:Bool) (l:List Int) (hl:l.length≤1048576) (hd:Dig 18446744073709551616 l):∀(n i k:Nat) (d:List Int),i+n=l.length→n+4*l.length+3<k→d.length=4*i→Dig 65536 d→val 65536 d=val 18446744073709551616 (l.take i) →
  ∃r,Ev (fun k=>tribunalref02_From.l0 k d (i:Int) s l) (s&&decide (0<r.length),r)∧Dig 65536 r∧Top r∧val 65536 r=val 18446744073709551616 l:=by
 intro n
 induction n with
 | zero=>
  intro i k d hi hk hdl hdd hdv
  obtain⟨r,⟨K,hr⟩,hrd,hrt,hrv⟩:=tribunalref02_trim_ev (B:=65536) (l:=d) Z0 hdd
  refine⟨r,⟨K+1,fun k hk=>?_⟩,hrd,hrt,by rw[hrv,hdv,show i=l.length from by omega,List.take_length]⟩
  obtain⟨k,rfl⟩:∃j,k=j+1:=⟨k-1,Z0⟩
  simp only[tribunalref02_From.l0]
  rw[if_neg Z0]
  simp only[tribunalref02_Make.f,hr k Z0,Option.bind_some]
  cases s<;>simp
 | succ n ih=>
  intro i k d hi hk hdl hdd hdv
  have hx:=hd.get i Z0
  obtain⟨hv4,hd4⟩:=limb4 l[i] hx
  obtain⟨r,⟨K,hr⟩,h1,h2,h3⟩:=ih (i+1) (k-1) (d++[IntKind.u16.wrap l[i],IntKind.u16.wrap (l[i]/65536),IntKind.u16.wrap (l[i]/4294967296),IntKind.u16.wrap (l[i]/281474976710656)]) Z0 Z0 V3 (Dig.append.2 ⟨hdd,hd4⟩)
   (by rw[val_append,hv4,hdv,val_take_succ _ l i Z0,hdl,pow4,Int.pow_mul];rw[Int.mul_comm])
  refine⟨r,⟨K+1,fun k hk=>?_⟩,h1,h2,h3⟩
  obtain⟨k,rfl⟩:∃j,k=j+1:=⟨k-1,Z0⟩
  simp only[tribunalref02_From.l0]
  rw[if_pos Z0,if_pos Z0,rd_nat l i Z0]
  simp only[Option.bind_some]
  rw[if_pos V3,w64 _ Z0]
  have:=hr k Z0
  rwa [show((i+1:Nat):Int)=(i:Int)+1 from by omega]at this
theorem From_ev (s:Bool) (l:List Int) (hl:l.length≤1048576) (hd:Dig 18446744073709551616 l) :
  ∃r,Ev (fun k=>tribunalref02_From.f k s l) (s&&decide (0<r.length),r)∧Dig 65536 r∧Top r∧val 65536 r=val 18446744073709551616 l:=by
 have:=From_l0 s l hl hd l.length 0 (l.length+4*l.length+4) [] Z0 Z0 rfl Dig.nil rfl
 exact this
theorem of_ev (s:Bool) (l:List Int) (hl:l.length≤1048576) (hd:Dig 18446744073709551616 l) :
  ∃r,Ev (fun k=>whole_of.f k s l) (r,s&&decide (0<r.length))∧r.length≤l.length∧Dig 18446744073709551616 r∧Top r∧val 18446744073709551616 r=val 18446744073709551616 l:=by
 obtain⟨m,hm,he,ht,hv⟩:=whole_trimmed_l0 l Z0 l.length (l.length+1) (Nat.le_refl _) Z0
 obtain⟨K,hr⟩:=Ev.of (fun k=>whole_trimmed.mono l k) he
 refine⟨l.take m,⟨K,fun k hk=>?_⟩,by rw[List.length_take];omega,hd.take m,ht,by rw[hv,List.take_length]⟩
 simp only[whole_of.f,hr k hk,Option.bind_some]
 cases s
 ·simp
 simp only[whole_amount_null.f,Option.bind_some,if_true]
 congr 2
 cases h:l.take m<;>simp<;>omega
theorem or16 (x d:Int) (hx:0≤x∧x<281474976710656) (hd:0≤d∧d<65536):Go.bits .or .u64 (IntKind.u64.wrap (x*65536)) (IntKind.u64.wrap d)=x*65536+d:=by
 rw[IntKind.wrap_u64,IntKind.wrap_u64,Int.emod_eq_of_lt Z0 Z0,Int.emod_eq_of_lt Z0 Z0]
 obtain⟨n,rfl⟩:=Int.eq_ofNat_of_zero_le hx.1
 obtain⟨m,rfl⟩:=Int.eq_ofNat_of_zero_le hd.1
 have:=bits_or_u64_nat (n*65536) m Z0 Z0
 rw[show((n:Int)*65536)=((n*65536:Nat):Int) from by omega,this]
 have e:n*65536 ||| m=n*65536+m:=by
  have:=Nat.shiftLeft_add_eq_or_of_lt (i:=16) (b:=m) Z0 n
  rw[Nat.shiftLeft_eq]at this
  exact this.symm
 rw[e];omega
theorem To_step (k:Nat) (l D:List Int) (s:Bool) (i j:Nat) (x:Int) (hD:D.length≤8388608) (hd:Dig 65536 D) (hi:i≤8388608) (hj:j≤3) (hx:0≤x∧x<281474976710656) :
  tribunalref02_To.l1 (k+1) l (i:Int) x (j:Int) s D=tribunalref02_To.l1 k l (i:Int) (x*65536+D.getD (i+j) 0) ((j:Int)-1) s D:=by
 rw[tribunalref02_To.l1,if_pos Z0,w64 _ Z0,w64 _ Z0]
 by_cases h:i+j<D.length
 ·have hdj:=hd.get (i+j) h
  rw[if_pos Z0,if_pos Z0,show(i:Int)+(j:Int)=((i+j:Nat):Int) from by omega,rd_nat D (i+j) h,or16 x _ hx hdj,List.getD_eq_getElem?_getD,List.getElem?_eq_getElem h,Option.getD_some]
 rw[if_neg Z0,List.getD_eq_getElem?_getD,List.getElem?_eq_none Z0,Option.getD_none,IntKind.wrap_u64,Int.emod_eq_of_lt Z0 Z0,Int.add_zero]
theorem take4 (D:List Int) (i:Nat) (hi:i<D.length):val 65536 (D.take (i+4))=val 65536 (D.take i)+65536^i*((((0*65536+D.getD (i+3) 0)*65536+D.getD (i+2) 0)*65536+D.getD (i+1) 0)*65536+D.getD (i+0) 0):=by
 have e:D.take (i+4)=D.take i++(D.drop i).take 4:=by rw[List.take_add]
 rw[e,val_append,List.length_take,Nat.min_eq_left Z0]
 have h:val 65536 ((D.drop i).take 4)=(((0*65536+D.getD (i+3) 0)*65536+D.getD (i+2) 0)*65536+D.getD (i+1) 0)*65536+D.getD (i+0) 0:=by
  have g:∀j,D.getD (i+j) 0=(D.drop i).getD j 0:=fun j=>by simp[List.getD_eq_getElem?_getD]
  rw[g 0,g 1,g 2,g 3]
  match D.drop i with
  | []=>rfl
  | [a]=>simp[val,List.getD_eq_getElem?_getD]
  | [a,b]=>simp[val,List.getD_eq_getElem?_getD];omega
  | [a,b,c]=>simp[val,List.getD_eq_getElem?_getD];omega
  | a::b::c::d::_=>simp[val,List.getD_eq_getElem?_getD];omega
 rw[h]
theorem getD_dig {B:Int} (hB:0<B) {D:List Int} (hd:Dig B D) (j:Nat):0≤D.getD j 0∧D.getD j 0<B:=by
 by_cases h:j<D.length
 ·rw[List.getD_eq_getElem?_getD,List.getElem?_eq_getElem h];exact hd.get j h
 rw[List.getD_eq_getElem?_getD,List.getElem?_eq_none Z0];simp;exact hB
theorem To_limb (k:Nat) (l D:List Int) (s:Bool) (i:Nat) (hD:D.length≤8388608) (hl:l.length≤8388608) (hd:Dig 65536 D) (hi:i<D.length) :
  ∃x,0≤x∧x<18446744073709551616∧val 65536 (D.take (i+4))=val 65536 (D.take i)+65536^i*x∧tribunalref02_To.l1 (k+5) l (i:Int) 0 3 s D=tribunalref02_To.l0 k (l++[x]) ((i+4:Nat):Int) s D:=by
 have d0:=getD_dig X0 hd (i+0)
 have d1:=getD_dig X0 hd (i+1)
 have d2:=getD_dig X0 hd (i+2)
 have d3:=getD_dig X0 hd (i+3)
 refine⟨_,?_,?_,take4 D i hi,?_⟩
 ·omega
 ·omega
 have s3:=To_step (k+4) l D s i 3 0 hD hd Z0 Z0 Z0
 have s2:=To_step (k+3) l D s i 2 (0*65536+D.getD (i+3) 0) hD hd Z0 Z0 Z0
 have s1:=To_step (k+2) l D s i 1 ((0*65536+D.getD (i+3) 0)*65536+D.getD (i+2) 0) hD hd Z0 Z0 Z0
 have s0:=To_step (k+1) l D s i 0 (((0*65536+D.getD (i+3) 0)*65536+D.getD (i+2) 0)*65536+D.getD (i+1) 0) hD hd Z0 Z0 Z0
 rw[show((3:Nat):Int)=3 from rfl,show(3:Int)-1=2 from rfl]at s3
 rw[show((2:Nat):Int)=2 from rfl,show(2:Int)-1=1 from rfl]at s2
 rw[show((1:Nat):Int)=1 from rfl,show(1:Int)-1=0 from rfl]at s1
 rw[show((0:Nat):Int)=0 from rfl]at s0
 rw[s3,s2,s1,s0,tribunalref02_To.l1,if_neg Z0,if_pos Z0,w64 _ Z0,show((i+4:Nat):Int)=(i:Int)+4 from by omega]
theorem To_l0 (D:List Int) (s:Bool) (hD:D.length≤8388608) (hd:Dig 65536 D):∀(n i:Nat) (l:List Int),D.length≤i+n→i=4*l.length→i<D.length+4→Dig 18446744073709551616 l→val 18446744073709551616 l=val 65536 (D.take i) →
  ∃r,Ev (fun k=>tribunalref02_To.l0 k l (i:Int) s D) (s,r)∧Dig 18446744073709551616 r∧val 18446744073709551616 r=val 65536 D∧D.length≤4*r.length∧4*r.length<D.length+4:=by
 intro n
 induction n using Nat.strongRecOn with
 | ind n ih=>
  intro i l hn hi hi4 hdl hv
  by_cases h:i<D.length
  ·obtain⟨m,rfl⟩:∃m,n=m+1:=⟨n-1,Z0⟩
   have hx:=fun k=>To_limb k l D s i hD Z0 hd h
   obtain⟨x,hx0,hx1,hxv,_⟩:=hx 0
   have hxk:∀k,tribunalref02_To.l1 (k+5) l (i:Int) 0 3 s D=tribunalref02_To.l0 k (l++[x]) ((i+4:Nat):Int) s D:=fun k=>by
    obtain⟨x',h0',h1',hv',he⟩:=hx k
    have:x'=x:=by
     have e:(65536:Int)^i*x'=65536^i*x:=by omega
     exact Int.eq_of_mul_eq_mul_left (Int.ne_of_gt (pow_pos X0 i)) e
    rw[he,this]
   obtain⟨r,⟨K,hr⟩,hq⟩:=ih (m+1-4) Z0 (i+4) (l++[x]) Z0 V3 Z0 (Dig.append.2 ⟨hdl,by rw[Dig.cons];exact⟨⟨hx0,hx1⟩,Dig.nil⟩⟩)
    (by rw[val_snoc,hv,hxv,hi,pow4,Int.pow_mul,Int.mul_comm])
   refine⟨r,⟨K+6,fun k hk=>?_⟩,hq⟩
   obtain⟨k,rfl⟩:∃j,k=j+6:=⟨k-6,Z0⟩
   show tribunalref02_To.l0 (k+5+1) l (i:Int) s D=_
   rw[tribunalref02_To.l0,if_pos Z0,hxk]
   exact hr k Z0
  refine⟨l,⟨1,fun k hk=>?_⟩,hdl,by rw[hv,List.take_of_length_le Z0],Z0,Z0⟩
  obtain⟨k,rfl⟩:∃j,k=j+1:=⟨k-1,Z0⟩
  show tribunalref02_To.l0 (k+1) l (i:Int) s D=_
  rw[tribunalref02_To.l0,if_neg Z0]
theorem To_ev (D:List Int) (s:Bool) (hD:D.length≤8388608) (hd:Dig 65536 D) (ht:Top D) :
  ∃r,Ev (fun k=>tribunalref02_To.f k s D) (s,r)∧Dig 18446744073709551616 r∧Top r∧val 18446744073709551616 r=val 65536 D∧D.length≤4*r.length∧4*r.length<D.length+4:=by
 obtain⟨r,hr,h1,h2,h3,h4⟩:=To_l0 D s hD hd D.length 0 [] Z0 rfl Z0 Dig.nil rfl
 refine⟨r,hr,h1,?_,h2,h3,h4⟩
 rw[Top_iff]
 intro hne h0
 have hlen:0<r.length:=List.length_pos_iff.2 hne
 have hDne:D≠[]:=by intro e;rw[e]at h4;simp at h4;omega
 have hlow:=low (B:=65536) X0 hd ht hDne
 have e:r=r.take (r.length-1)++[0]:=by
  conv=>lhs;rw[←List.dropLast_concat_getLast hne,h0]
  rw[List.dropLast_eq_take]
 have hv:val 18446744073709551616 r=val 18446744073709551616 (r.take (r.length-1)):=by
  conv=>lhs;rw[e]
  rw[val_snoc];simp
 have hlt:=val_lt (B:=18446744073709551616) X0 (h1.take (r.length-1))
 rw[List.length_take,Nat.min_eq_left Z0,pow4,←Int.pow_mul]at hlt
 rw[pow4]at hv h2
 have hmono:(65536:Int)^(4*(r.length-1))≤65536^(D.length-1):=by
  have:4*(r.length-1)≤D.length-1:=by omega
  obtain⟨c,hc⟩:=Nat.exists_eq_add_of_le this
  rw[hc,Int.pow_add]
  have h1:=pow_pos (B:=65536) X0 (4*(r.length-1))
  have h2:=pow_pos (B:=65536) X0 c
  have:=Int.mul_le_mul_of_nonneg_left (show(1:Int)≤65536^c by omega) (Int.le_of_lt h1)
  omega
 omega
end Go.Proofs.YtncomlmhagaajaaGreat.PurePBo
namespace Go.Proofs.YtncomlmhagaajaaGreat.Big
structure Num (B n:Int) (s:Bool) (l:List Int):Prop where
 rep:Rep B (n.natAbs:Int) l
 sign:s=decide (n<0)
theorem Num.uniq {B n:Int} {s t:Bool} {l m:List Int} (hB:1<B) (h:Num B n s l) (g:Num B n t m):t=s∧m=l:=
 ⟨g.sign.trans h.sign.symm,g.rep.uniq hB h.rep⟩
theorem Rep.pos_iff {B n:Int} (hB:0<B) {a:List Int} (ha:Rep B n a):0<a.length↔0<n:=by
 have h:=ha.nil_iff hB
 have h1:=ha.nonneg hB
 rw[List.length_pos_iff,Ne,h]
 omega
theorem Num.of_rep {B v:Int} (hB:0<B) {l:List Int} (h:Rep B v l) (b:Bool):Num B (if b then -v else v) (b&&decide (0<l.length)) l:=by
 have h1:=h.nonneg hB
 have h2:=h.pos_iff hB
 refine⟨?_,?_⟩
 ·have e:(((if b then -v else v):Int).natAbs:Int)=v:=by cases b<;>simp<;>omega
  rw[e];exact h
 cases b
 ·simp;omega
 simp only[Bool.true_and,if_true]
 by_cases h3:0<l.length
 ·have:=h2.1 h3;simp[h3];omega
 have:¬0<v:=fun g=>h3 (h2.2 g)
 simp[h3];omega
theorem Num.of_rep' {B v:Int} (hB:0<B) {l:List Int} (h:Rep B v l) (b:Bool) {n:Int} (hn:n=if b then -v else v):Num B n (b&&decide (0<l.length)) l:=hn ▸ Num.of_rep hB h b
def sg (n:Int):Int:=if n<0 then -1 else if n=0 then 0 else 1
theorem sg_neg {n:Int} (h:n<0):sg n = -1:=by unfold sg;rw[if_pos h]
theorem sg_zero {n:Int} (h:n=0):sg n=0:=by unfold sg;rw[if_neg Z0,if_pos h]
theorem sg_pos {n:Int} (h:0<n):sg n=1:=by unfold sg;rw[if_neg Z0,if_neg Z0]
theorem lt_of_len {B:Int} (hB:0<B) {a b:List Int} (da:Dig B a) (db:Dig B b) (tb:Top b) (h:a.length<b.length):val B a<val B b:=by
 have h1:=val_lt hB da
 have hne:b≠[]:=by intro e;rw[e]at h;simp at h
 have h2:=low hB db tb hne
 have h4:B^a.length≤B^(b.length-1):=by
  obtain⟨c,hc⟩:=Nat.exists_eq_add_of_le (show a.length≤b.length-1 by omega)
  rw[hc,Int.pow_add]
  have g1:=pow_pos hB a.length
  have g2:=pow_pos hB c
  have:=Int.mul_le_mul_of_nonneg_left (show(1:Int)≤B^c by omega) (Int.le_of_lt g1)
  omega
 omega
theorem lt_of_top {B:Int} (hB:0<B) {a b:List Int} (da:Dig B a) (db:Dig B b) (n:Nat) (ha:n<a.length) (hb:n<b.length) (h:a[n]<b[n]):val B (a.take (n+1))<val B (b.take (n+1)):=by
 rw[val_take_succ B a n ha,val_take_succ B b n hb]
 have h1:=val_lt hB (da.take n)
 rw[List.length_take,Nat.min_eq_left Z0]at h1
 have h2:=val_nonneg hB (db.take n)
 have h3:=Int.mul_le_mul_of_nonneg_right (show a[n]+1≤b[n] by omega) (Int.le_of_lt (pow_pos hB n))
 rw[Int.add_mul,Int.one_mul]at h3
 omega
theorem add_step (V c c' s x y X Y P B:Int) (hs:c'*B+s=x+y+c) (hv:V+c*P=X+Y):(V+s*P)+c'*(P*B)=(X+x*P)+(Y+y*P):=by
 have h1:c'*(P*B)+s*P=(c'*B+s)*P:=by rw[Int.add_mul,Int.mul_assoc,Int.mul_comm P B]
 rw[hs,Int.add_mul,Int.add_mul]at h1
 omega
theorem sub_step (V c c' s x y X Y P B:Int) (hs:s-c'*B=x-y-c) (hv:V-c*P=X-Y):(V+s*P)-c'*(P*B)=(X+x*P)-(Y+y*P):=by
 have h1:s*P-c'*(P*B)=(s-c'*B)*P:=by rw[Int.sub_mul,Int.mul_assoc,Int.mul_comm P B]
 rw[hs,Int.sub_mul,Int.sub_mul]at h1
 omega
theorem val_take_getD (B:Int) (l:List Int) (i:Nat):val B (l.take (i+1))=val B (l.take i)+l.getD i 0*B^i:=by
 by_cases h:i<l.length
 ·rw[val_take_succ B l i h,List.getD_eq_getElem?_getD,List.getElem?_eq_getElem h,Option.getD_some]
 rw[List.take_of_length_le Z0,List.take_of_length_le Z0,List.getD_eq_getElem?_getD,List.getElem?_eq_none Z0,Option.getD_none,Int.zero_mul,Int.add_zero]
end Go.Proofs.YtncomlmhagaajaaGreat.Big
namespace Go.Proofs.YtncomlmhagaajaaGreat.PurePBo
open Go.RowKit Go.Proofs.YtncomlmhagaajaaGreatW.PrintWords Go.Proofs.YtncomlmhagaajaaGreatW.PrintLast Go.Proofs.YtncomlmhagaajaaGreatW.PrintMore Go.Proofs.YtncomlmhagaajaaGreat.PBo Go.Proofs.YtncomlmhagaajaaGreat Go.Proofs.YtncomlmhagaajaaGreat.Mine Big
theorem pow_le_pow {B:Int} (hB:0<B) {m n:Nat} (h:m≤n):B^m≤B^n:=by
 obtain⟨c,rfl⟩:=Nat.exists_eq_add_of_le h
 rw[Int.pow_add]
 have g1:=pow_pos hB m
 have g2:=pow_pos hB c
 have:=Int.mul_le_mul_of_nonneg_left (show(1:Int)≤B^c by omega) (Int.le_of_lt g1)
 omega
theorem rep_len {B v:Int} (hB:0<B) {r:List Int} (h:Rep B v r) {m:Nat} (hv:v<B^m):r.length≤m:=by
 refine Classical.byContradiction fun hc=>?_
 have hne:r≠[]:=by intro e;rw[e]at hc;simp at hc
 have h1:=h.low hB hne
 have h2:=pow_le_pow hB (show m≤r.length-1 by omega)
 omega
theorem len4 {l d:List Int} {v:Int} (hl:Dig 18446744073709551616 l) (hv:val 18446744073709551616 l=v) (h:Rep 65536 v d):d.length≤4*l.length:=by
 by_cases hne:d=[]
 ·rw[hne];simp
 have h1:=h.low X0 hne
 have h2:=val_lt (B:=18446744073709551616) X0 hl
 rw[hv,pow4,←Int.pow_mul]at h2
 refine Classical.byContradiction fun hc=>?_
 have h4:(65536:Int)^(4*l.length)≤65536^(d.length-1):=by
  obtain⟨c,hc⟩:=Nat.exists_eq_add_of_le (show 4*l.length≤d.length-1 by omega)
  rw[hc,Int.pow_add]
  have g1:=pow_pos (B:=65536) X0 (4*l.length)
  have g2:=pow_pos (B:=65536) X0 c
  have:=Int.mul_le_mul_of_nonneg_left (show(1:Int)≤65536^c by omega) (Int.le_of_lt g1)
  omega
 omega
theorem signed_eq (m:List Int) (b:Bool):whole_signed.f m b=some (m,b&&decide (0<m.length)):=by
 cases b
 ·simp[whole_signed.f]
 simp only[whole_signed.f,whole_amount_null.f,Option.bind_some,if_true]
 congr 2
 cases m<;>simp<;>omega
theorem dig_of_wf {l:List Int} (h:∀z∈l,(Lit.int .u64 z).wf=true):Dig 18446744073709551616 l:=fun z hz=>by
 have:=Go.bounds_u64 (h z hz)
 omega
theorem whole_amount_cmp_l0 (a b:List Int) (hl:a.length≤8388608) (hab:a.length=b.length) (da:Dig 18446744073709551616 a) (db:Dig 18446744073709551616 b):∀(n k:Nat) (i:Int),n≤a.length→n<k→i=(n:Int)-1→whole_amount_cmp.l0 k a b i=some (sg (val 18446744073709551616 (a.take n)-val 18446744073709551616 (b.take n))):=by
 intro n
 induction n with
 | zero=>
  intro k i _ hk hi
  obtain⟨k,rfl⟩:∃j,k=j+1:=⟨k-1,Z0⟩
  rw[whole_amount_cmp.l0,if_neg Z0,sg_zero Z1]
 | succ n ih=>
  intro k i hn hk hi
  obtain⟨k,rfl⟩:∃j,k=j+1:=⟨k-1,Z0⟩
  have hi':i=(n:Int):=by omega
  subst hi'
  have hna:n<a.length:=by omega
  have hnb:n<b.length:=by omega
  rw[whole_amount_cmp.l0,if_pos Z0,if_pos Z0,if_pos Z0,if_pos Z0,rd_nat a n hna,rd_nat b n hnb]
  rcases Int.lt_trichotomy a[n] b[n] with h|h|h
  ·have:=lt_of_top X0 da db n hna hnb h
   rw[if_neg Z0,if_pos h]
   rw[sg_neg Z0]
  ·rw[if_pos h]
   rw[w64 _ Z0,ih k _ Z0 Z0 rfl,val_take_succ 18446744073709551616 a n hna,val_take_succ 18446744073709551616 b n hnb,h]
   congr 2
   omega
  have:=lt_of_top X0 db da n hnb hna h
  rw[if_neg Z0,if_neg Z0]
  rw[sg_pos Z0]
theorem whole_amount_cmp_ev (a b:List Int) (ha:a.length≤8388608) (hb:b.length≤8388608) (da:Dig 18446744073709551616 a) (db:Dig 18446744073709551616 b) (ta:Top a) (tb:Top b):Ev (fun k=>whole_amount_cmp.f k a b) (sg (val 18446744073709551616 a-val 18446744073709551616 b)):=by
 refine⟨a.length+1,fun k hk=>?_⟩
 show whole_amount_cmp.f k a b=_
 rw[whole_amount_cmp.f]
 rcases Nat.lt_trichotomy a.length b.length with h|h|h
 ·have:=lt_of_len X0 da db tb h
  rw[if_neg Z0,if_pos Z0,sg_neg Z0]
 ·rw[if_pos Z0,w64 _ Z0,whole_amount_cmp_l0 a b ha h da db a.length k _ (Nat.le_refl _) Z0 rfl,List.take_length,h,List.take_length]
 have:=lt_of_len X0 db da ta h
 rw[if_neg Z0,if_neg Z0,sg_pos Z0]
theorem tribunalref02_cmpD_l0 (a b:List Int) (hl:a.length≤8388608) (hab:a.length=b.length) (da:Dig 65536 a) (db:Dig 65536 b):∀(n k:Nat) (i:Int),n≤a.length→n<k→i=(n:Int)-1→tribunalref02_cmpD.l0 k a b i=some (sg (val 65536 (a.take n)-val 65536 (b.take n))):=by
 intro n
 induction n with
 | zero=>
  intro k i _ hk hi
  obtain⟨k,rfl⟩:∃j,k=j+1:=⟨k-1,Z0⟩
  rw[tribunalref02_cmpD.l0,if_neg Z0,sg_zero Z1]
 | succ n ih=>
  intro k i hn hk hi
  obtain⟨k,rfl⟩:∃j,k=j+1:=⟨k-1,Z0⟩
  have hi':i=(n:Int):=by omega
  subst hi'
  have hna:n<a.length:=by omega
  have hnb:n<b.length:=by omega
  rw[tribunalref02_cmpD.l0,if_pos Z0,if_pos Z0,if_pos Z0,if_pos Z0,rd_nat a n hna,rd_nat b n hnb]
  rcases Int.lt_trichotomy a[n] b[n] with h|h|h
  ·have:=lt_of_top X0 da db n hna hnb h
   rw[if_pos h]
   rw[sg_neg Z0]
  ·rw[if_neg Z0,if_neg Z0]
   rw[w64 _ Z0,ih k _ Z0 Z0 rfl,val_take_succ 65536 a n hna,val_take_succ 65536 b n hnb,h]
   congr 2
   omega
  have:=lt_of_top X0 db da n hnb hna h
  rw[if_neg Z0,if_pos h]
  rw[sg_pos Z0]
theorem tribunalref02_cmpD_ev (a b:List Int) (ha:a.length≤8388608) (hb:b.length≤8388608) (da:Dig 65536 a) (db:Dig 65536 b) (ta:Top a) (tb:Top b):Ev (fun k=>tribunalref02_cmpD.f k a b) (sg (val 65536 a-val 65536 b)):=by
 refine⟨a.length+1,fun k hk=>?_⟩
 show tribunalref02_cmpD.f k a b=_
 rw[tribunalref02_cmpD.f]
 rcases Nat.lt_trichotomy a.length b.length with h|h|h
 ·have:=lt_of_len X0 da db tb h
  rw[if_neg Z0,if_pos Z0,sg_neg Z0]
 ·rw[if_pos Z0,w64 _ Z0,tribunalref02_cmpD_l0 a b ha h da db a.length k _ (Nat.le_refl _) Z0 rfl,List.take_length,h,List.take_length]
 have:=lt_of_len X0 db da ta h
 rw[if_neg Z0,if_neg Z0,sg_pos Z0]
theorem rd_getD (l:List Int) (n:Nat):rd l (n:Int)=l.getD n 0:=by simp[rd]
theorem getD_ge (l:List Int) (n:Nat) (h:l.length≤n):l.getD n 0=0:=by
 rw[List.getD_eq_getElem?_getD,List.getElem?_eq_none h,Option.getD_none]
theorem Add64_eq (x y c:Int) (hx:0≤x) (hy:0≤y) (hc:0≤c∧c≤1):bits_Add64.f x y c=some ((x+y+c)%18446744073709551616,(x+y+c)/18446744073709551616):=by
 rw[bits_Add64.f,if_pos ⟨hx,hy,hc.1,hc.2⟩]
theorem Sub64_eq (x y c:Int) (hx:0≤x) (hy:0≤y∧y<18446744073709551616) (hc:0≤c∧c≤1):bits_Sub64.f x y c=some ((x-y-c)%18446744073709551616,if x<y+c then 1 else 0):=by
 rw[bits_Sub64.f,if_pos ⟨hx,hy.1,hy.2,hc.1,hc.2⟩]
theorem plus_step (k:Nat) (a b out:List Int) (c:Int) (i:Nat) (hi:i<a.length) (hl:a.length≤8388608) (ho:out.length=i) (da:Dig 18446744073709551616 a) (db:Dig 18446744073709551616 b) (hc:0≤c∧c≤1) :
  whole_amount_plus.l0 (k+1) a b out c (a.length:Int) (i:Int)=whole_amount_plus.l0 k a b (out++[(a.getD i 0+b.getD i 0+c)%18446744073709551616]) ((a.getD i 0+b.getD i 0+c)/18446744073709551616) (a.length:Int) ((i+1:Nat):Int):=by
 have ga:=getD_dig X0 da i
 have gb:=getD_dig X0 db i
 rw[whole_amount_plus.l0,if_pos Z0,rd_getD,rd_getD,show wrap64 ((i:Int)+1)=((i+1:Nat):Int) from by rw[w64 _ Z0];omega]
 by_cases h:(i:Int)<(b.length:Int)
 ·rw[if_pos h,if_pos Z0,if_pos Z0,Add64_eq _ _ _ ga.1 gb.1 hc,Option.bind_some,if_pos Z0]
 rw[if_neg h,if_pos Z0,if_pos Z0,Add64_eq _ _ _ ga.1 X0 hc,Option.bind_some,if_pos Z0,getD_ge b i Z0]
theorem plus_l0 (a b:List Int) (hl:a.length≤8388608) (hb:b.length≤a.length) (da:Dig 18446744073709551616 a) (db:Dig 18446744073709551616 b):∀(n i:Nat) (out:List Int) (c:Int),i+n=a.length→out.length=i→Dig 18446744073709551616 out→0≤c∧c≤1→val 18446744073709551616 out+c*18446744073709551616^i=val 18446744073709551616 (a.take i)+val 18446744073709551616 (b.take i) →
  ∃r,Ev (fun k=>whole_amount_plus.l0 k a b out c (a.length:Int) (i:Int)) r∧Rep 18446744073709551616 (val 18446744073709551616 a+val 18446744073709551616 b) r:=by
 intro n
 induction n with
 | zero=>
  intro i out c hi ho hd hc hv
  obtain⟨r,⟨K,hr⟩,h1,h2,h3⟩:=whole_trimmed_ev (B:=18446744073709551616) (l:=out++[c]) V3 (Dig.append.2 ⟨hd,by rw[Dig.cons];exact⟨⟨hc.1,Z0⟩,Dig.nil⟩⟩)
  refine⟨r,⟨K+1,fun k hk=>?_⟩,h1,h2,?_⟩
  ·obtain⟨k,rfl⟩:∃j,k=j+1:=⟨k-1,Z0⟩
   have hk':whole_trimmed.f k (out++[c])=some r:=hr k Z0
   show whole_amount_plus.l0 (k+1) a b out c (a.length:Int) (i:Int)=some r
   rw[whole_amount_plus.l0,if_neg Z0,if_pos Z0,hk',Option.bind_some]
  rw[h3,val_snoc,ho,hv,List.take_of_length_le Z0,List.take_of_length_le Z0]
 | succ n ih=>
  intro i out c hi ho hd hc hv
  have hil:i<a.length:=by omega
  have ga:=getD_dig X0 da i
  have gb:=getD_dig X0 db i
  obtain⟨r,⟨K,hr⟩,hq⟩:=ih (i+1) (out++[(a.getD i 0+b.getD i 0+c)%18446744073709551616]) ((a.getD i 0+b.getD i 0+c)/18446744073709551616) Z0 V3
   (Dig.append.2 ⟨hd,U4⟩) Z0
   D5
  refine⟨r,⟨K+1,fun k hk=>?_⟩,hq⟩
  obtain⟨k,rfl⟩:∃j,k=j+1:=⟨k-1,Z0⟩
  show whole_amount_plus.l0 (k+1) a b out c (a.length:Int) (i:Int)=some r
  rw[plus_step k a b out c i hil hl ho da db hc]
  exact hr k Z0
theorem plus_j0 (a b:List Int) (hl:a.length≤8388600) (hb:b.length≤a.length) (da:Dig 18446744073709551616 a) (db:Dig 18446744073709551616 b) :
  ∃r,Ev (fun k=>whole_amount_plus.j0 k a b) r∧Rep 18446744073709551616 (val 18446744073709551616 a+val 18446744073709551616 b) r:=by
 obtain⟨r,⟨K,hr⟩,hq⟩:=plus_l0 a b Z0 hb da db a.length 0 [] 0 Z0 rfl Dig.nil Z0 F6
 refine⟨r,⟨K+1,fun k hk=>?_⟩,hq⟩
 obtain⟨k,rfl⟩:∃j,k=j+1:=⟨k-1,Z0⟩
 show whole_amount_plus.j0 (k+1) a b=some r
 have hw:wrap64 ((a.length:Int)+1)=((a.length+1:Nat):Int):=by rw[w64 _ Z0];omega
 rw[whole_amount_plus.j0,hw,if_pos Z0,Int.toNat_natCast,if_pos Z0]
 exact hr k Z0
theorem plus_ev (a b:List Int) (ha:a.length≤8388600) (hb:b.length≤8388600) (da:Dig 18446744073709551616 a) (db:Dig 18446744073709551616 b) :
  ∃r,Ev (fun k=>whole_amount_plus.f k a b) r∧Rep 18446744073709551616 (val 18446744073709551616 a+val 18446744073709551616 b) r:=by
 by_cases h:a.length<b.length
 ·obtain⟨r,⟨K,hr⟩,hq⟩:=plus_j0 b a hb Z0 db da
  refine⟨r,⟨K,fun k hk=>?_⟩,by rw[Int.add_comm];exact hq⟩
  show whole_amount_plus.f k a b=some r
  rw[whole_amount_plus.f,if_pos Z0]
  exact hr k hk
 obtain⟨r,⟨K,hr⟩,hq⟩:=plus_j0 a b ha Z0 da db
 refine⟨r,⟨K,fun k hk=>?_⟩,hq⟩
 show whole_amount_plus.f k a b=some r
 rw[whole_amount_plus.f,if_neg Z0]
 exact hr k hk
theorem num_len {B n m u:Int} (hB:2≤B) {s t x:Bool} {a b r:List Int} (ha:Num B n s a) (hb:Num B m t b) (hr:Num B u x r) (hu:(u.natAbs:Int)≤n.natAbs+m.natAbs) {L:Nat} (la:a.length≤L) (lb:b.length≤L):r.length≤L+1:=by
 refine rep_len Z0 hr.rep ?_
 have h1:=ha.rep.lt Z0
 have h2:=hb.rep.lt Z0
 have h3:=pow_le_pow (B:=B) Z0 la
 have h4:=pow_le_pow (B:=B) Z0 lb
 rw[Int.pow_succ]
 have h5:=pow_pos (B:=B) Z0 L
 have h6:=Int.mul_le_mul_of_nonneg_left hB (Int.le_of_lt h5)
 omega
theorem cmp_num {n m:Int} {s t:Bool} {a b:List Int} (ha:Num 18446744073709551616 n s a) (hb:Num 18446744073709551616 m t b) (la:a.length≤8388608) (lb:b.length≤8388608):Ev (fun k=>whole_number_cmp.f k a s b t) (sg (n-m)):=by
 obtain⟨K1,h1⟩:=whole_amount_cmp_ev a b la lb ha.rep.dig hb.rep.dig ha.rep.top hb.rep.top
 obtain⟨K2,h2⟩:=whole_amount_cmp_ev b a lb la hb.rep.dig ha.rep.dig hb.rep.top ha.rep.top
 rw[ha.rep.val,hb.rep.val]at h1 h2
 refine⟨max K1 K2+2,fun k hk=>?_⟩
 obtain⟨k,rfl⟩:∃j,k=j+2:=⟨k-2,Z0⟩
 have g1:whole_amount_cmp.f k a b=_:=h1 k Z0
 have g2:whole_amount_cmp.f k b a=_:=h2 k Z0
 have e1:=ha.sign
 have e2:=hb.sign
 show whole_number_cmp.f (k+1+1) a s b t=_
 rw[whole_number_cmp.f]
 cases s with
 | true=>
  have hn:n<0:=of_decide_eq_true e1.symm
  cases t with
  | true=>
   have hm:m<0:=of_decide_eq_true e2.symm
   rw[if_pos rfl,whole_number_cmp.j0,if_neg X0,if_pos rfl,whole_number_cmp.j1,if_neg X0,if_pos rfl,g2,Option.bind_some]
   congr 2;omega
  | false=>
   have hm:¬m<0:=of_decide_eq_false e2.symm
   rw[if_pos rfl,whole_number_cmp.j0,if_pos X0,sg_neg Z0]
 | false=>
  have hn:¬n<0:=of_decide_eq_false e1.symm
  cases t with
  | true=>
   have hm:m<0:=of_decide_eq_true e2.symm
   rw[if_neg X0,whole_number_cmp.j0,if_neg X0,if_neg X0,whole_number_cmp.j1,if_pos rfl,sg_pos Z0]
  | false=>
   have hm:¬m<0:=of_decide_eq_false e2.symm
   rw[if_neg X0,whole_number_cmp.j0,if_neg X0,if_neg X0,whole_number_cmp.j1,if_neg X0,if_neg X0,g1,Option.bind_some]
   congr 2;omega
theorem sg_ge {n:Int}:sg n≥0↔0≤n:=by unfold sg;split<;>(try split)<;>omega
theorem len_of_le {B:Int} (hB:0<B) {a b:List Int} (da:Dig B a) (db:Dig B b) (tb:Top b) (h:val B b≤val B a):b.length≤a.length:=by
 refine Classical.byContradiction fun hc=>?_
 have:=lt_of_len hB da db tb Z0
 omega
theorem minus_step (k:Nat) (a b out:List Int) (c:Int) (i:Nat) (hi:i<a.length) (hl:a.length≤8388608) (ho:out.length=i) (da:Dig 18446744073709551616 a) (db:Dig 18446744073709551616 b) (hc:0≤c∧c≤1) :
  whole_amount_minus.l0 (k+1) a b out c (a.length:Int) (i:Int)=whole_amount_minus.l0 k a b (out++[(a.getD i 0-b.getD i 0-c)%18446744073709551616]) (if a.getD i 0<b.getD i 0+c then 1 else 0) (a.length:Int) ((i+1:Nat):Int):=by
 have ga:=getD_dig X0 da i
 have gb:=getD_dig X0 db i
 rw[whole_amount_minus.l0,if_pos Z0,rd_getD,rd_getD,show wrap64 ((i:Int)+1)=((i+1:Nat):Int) from by rw[w64 _ Z0];omega]
 by_cases h:(i:Int)<(b.length:Int)
 ·rw[if_pos h,if_pos Z0,if_pos Z0,Sub64_eq _ _ _ ga.1 gb hc,Option.bind_some,if_pos Z0]
 rw[if_neg h,if_pos Z0,if_pos Z0,Sub64_eq _ _ _ ga.1 X0 hc,Option.bind_some,if_pos Z0,getD_ge b i Z0]
theorem borrow_none {V c P X Y:Int} (hV:0≤V∧V<P) (hc:0≤c∧c≤1) (hle:Y≤X) (h:V-c*P=X-Y):V=X-Y:=by
 have:c=0∨c=1:=by omega
 rcases this with h1|h1
 ·rw[h1]at h;omega
 rw[h1]at h;omega
theorem minus_l0 (a b:List Int) (hl:a.length≤8388608) (hb:b.length≤a.length) (hle:val 18446744073709551616 b≤val 18446744073709551616 a) (da:Dig 18446744073709551616 a) (db:Dig 18446744073709551616 b):∀(n i:Nat) (out:List Int) (c:Int),i+n=a.length→out.length=i→Dig 18446744073709551616 out→0≤c∧c≤1→val 18446744073709551616 out-c*18446744073709551616^i=val 18446744073709551616 (a.take i)-val 18446744073709551616 (b.take i) →
  ∃r,Ev (fun k=>whole_amount_minus.l0 k a b out c (a.length:Int) (i:Int)) r∧Rep 18446744073709551616 (val 18446744073709551616 a-val 18446744073709551616 b) r:=by
 intro n
 induction n with
 | zero=>
  intro i out c hi ho hd hc hv
  obtain⟨r,⟨K,hr⟩,h1,h2,h3⟩:=whole_trimmed_ev (B:=18446744073709551616) (l:=out) Z0 hd
  refine⟨r,⟨K+1,fun k hk=>?_⟩,h1,h2,?_⟩
  ·obtain⟨k,rfl⟩:∃j,k=j+1:=⟨k-1,Z0⟩
   have hk':whole_trimmed.f k out=some r:=hr k Z0
   show whole_amount_minus.l0 (k+1) a b out c (a.length:Int) (i:Int)=some r
   rw[whole_amount_minus.l0,if_neg Z0,hk',Option.bind_some]
  rw[h3]
  rw[List.take_of_length_le Z0,List.take_of_length_le Z0]at hv
  have g1:=val_lt (B:=18446744073709551616) X0 hd
  have g2:=val_nonneg (B:=18446744073709551616) X0 hd
  rw[ho]at g1
  exact borrow_none ⟨g2,g1⟩ hc hle hv
 | succ n ih=>
  intro i out c hi ho hd hc hv
  have hil:i<a.length:=by omega
  have ga:=getD_dig X0 da i
  have gb:=getD_dig X0 db i
  obtain⟨r,⟨K,hr⟩,hq⟩:=ih (i+1) (out++[(a.getD i 0-b.getD i 0-c)%18446744073709551616]) (if a.getD i 0<b.getD i 0+c then 1 else 0) Z0 V3
   (Dig.append.2 ⟨hd,U4⟩) U6
   F5
  refine⟨r,⟨K+1,fun k hk=>?_⟩,hq⟩
  obtain⟨k,rfl⟩:∃j,k=j+1:=⟨k-1,Z0⟩
  show whole_amount_minus.l0 (k+1) a b out c (a.length:Int) (i:Int)=some r
  rw[minus_step k a b out c i hil hl ho da db hc]
  exact hr k Z0
theorem minus_ev (a b:List Int) (ha:a.length≤8388608) (hb:b.length≤a.length) (hle:val 18446744073709551616 b≤val 18446744073709551616 a) (da:Dig 18446744073709551616 a) (db:Dig 18446744073709551616 b) :
  ∃r,Ev (fun k=>whole_amount_minus.f k a b) r∧Rep 18446744073709551616 (val 18446744073709551616 a-val 18446744073709551616 b) r:=by
 obtain⟨r,⟨K,hr⟩,hq⟩:=minus_l0 a b ha hb hle da db a.length 0 [] 0 Z0 rfl Dig.nil Z0 F6
 refine⟨r,⟨K,fun k hk=>?_⟩,hq⟩
 show whole_amount_minus.f k a b=some r
 rw[whole_amount_minus.f,if_pos Z0,Int.toNat_natCast,if_pos Z0]
 exact hr k hk
theorem plus_num {n m:Int} {s t:Bool} {a b:List Int} (ha:Num 18446744073709551616 n s a) (hb:Num 18446744073709551616 m t b) (la:a.length≤8388600) (lb:b.length≤8388600) :
  ∃u r,Ev (fun k=>whole_number_plus.f k a s b t) (r,u)∧Num 18446744073709551616 (n+m) u r:=by
 have e1:=ha.sign
 have e2:=hb.sign
 by_cases hst:s=t
 ·obtain⟨r,⟨K,hr⟩,hR⟩:=plus_ev a b la lb ha.rep.dig hb.rep.dig
  rw[ha.rep.val,hb.rep.val]at hR
  refine⟨_,r,⟨K,fun k hk=>?_⟩,Num.of_rep' X0 hR s (by subst hst;cases s<;>simp at e1 e2 ⊢<;>omega)⟩
  have g:whole_amount_plus.f k a b=some r:=hr k hk
  show whole_number_plus.f k a s b t=_
  rw[whole_number_plus.f,if_pos (by rw[hst];exact beq_self_eq_true t),g,Option.bind_some,signed_eq,Option.bind_some]
 obtain⟨K1,h1⟩:=whole_amount_cmp_ev a b Z0 Z0 ha.rep.dig hb.rep.dig ha.rep.top hb.rep.top
 have hne:¬(s==t)=true:=by intro h;exact hst (eq_of_beq h)
 by_cases hle:val 18446744073709551616 b≤val 18446744073709551616 a
 ·obtain⟨r,⟨K,hr⟩,hR⟩:=minus_ev a b Z0 (len_of_le X0 ha.rep.dig hb.rep.dig hb.rep.top hle) hle ha.rep.dig hb.rep.dig
  have hle':=hle
  rw[ha.rep.val,hb.rep.val]at hR hle'
  refine⟨_,r,⟨max K K1,fun k hk=>?_⟩,Num.of_rep' X0 hR s F4⟩
  have g:whole_amount_minus.f k a b=some r:=hr k Z0
  have g1:whole_amount_cmp.f k a b=_:=h1 k Z0
  show whole_number_plus.f k a s b t=_
  rw[whole_number_plus.f,if_neg hne,g1,Option.bind_some,if_pos (sg_ge.2 Z0),g,Option.bind_some,signed_eq,Option.bind_some]
 have aa:val 18446744073709551616 a≤val 18446744073709551616 b:=by omega
 obtain⟨r,⟨K,hr⟩,hR⟩:=minus_ev b a Z0 (len_of_le X0 hb.rep.dig ha.rep.dig ha.rep.top aa) aa hb.rep.dig ha.rep.dig
 have hle':=aa
 rw[ha.rep.val,hb.rep.val]at hR hle'
 refine⟨_,r,⟨max K K1,fun k hk=>?_⟩,Num.of_rep' X0 hR t F4⟩
 have g:whole_amount_minus.f k b a=some r:=hr k Z0
 have g1:whole_amount_cmp.f k a b=_:=h1 k Z0
 show whole_number_plus.f k a s b t=_
 rw[whole_number_plus.f,if_neg hne,g1,Option.bind_some,if_neg (fun x=>hle (by have:=sg_ge.1 x;omega)),g,Option.bind_some,signed_eq,Option.bind_some]
theorem opposite_num {n:Int} {s:Bool} {a:List Int} (ha:Num 18446744073709551616 n s a):∃u,whole_number_opposite.f a s=some (a,u)∧Num 18446744073709551616 (-n) u a:=by
 have e1:=ha.sign
 refine⟨_,?_,Num.of_rep' X0 ha.rep (!s) (by cases s<;>simp at e1 ⊢<;>omega)⟩
 rw[whole_number_opposite.f,signed_eq,Option.bind_some]
theorem minus_num {n m:Int} {s t:Bool} {a b:List Int} (ha:Num 18446744073709551616 n s a) (hb:Num 18446744073709551616 m t b) (la:a.length≤8388600) (lb:b.length≤8388600) :
  ∃u r,Ev (fun k=>whole_number_minus.f k a s b t) (r,u)∧Num 18446744073709551616 (n-m) u r:=by
 obtain⟨v,hv,hb'⟩:=opposite_num hb
 obtain⟨u,r,⟨K,hr⟩,hR⟩:=plus_num ha hb' la lb
 refine⟨u,r,⟨K,fun k hk=>?_⟩,by rw[Int.sub_eq_add_neg];exact hR⟩
 have g:whole_number_plus.f k a s b v=_:=hr k hk
 show whole_number_minus.f k a s b t=_
 rw[whole_number_minus.f,hv,Option.bind_some,g,Option.bind_some]
theorem addD_step (k:Nat) (a b out:List Int) (c:Int) (i:Nat) (hi:i<a.length∨i<b.length∨0<c) (ha:a.length≤8388608) (hb:b.length≤8388608) (hi2:i≤8388608) (ho:out.length=i) (da:Dig 65536 a) (db:Dig 65536 b) (hc:0≤c∧c≤1) :
  tribunalref02_addD.l0 (k+2) a b out c (i:Int)=tribunalref02_addD.l0 k a b (out++[(a.getD i 0+b.getD i 0+c)%65536]) ((a.getD i 0+b.getD i 0+c)/65536) ((i+1:Nat):Int):=by
 have ga:=getD_dig X0 da i
 have gb:=getD_dig X0 db i
 have hw:wrap64 ((i:Int)+1)=((i+1:Nat):Int):=by rw[w64 _ Z0];omega
 have e1:tribunalref02_addD.l0 (k+1+1) a b out c (i:Int)=tribunalref02_addD.j1 (k+1) a b out c (i:Int) true:=by
  rw[tribunalref02_addD.l0]
  by_cases h1:(i:Int)<(a.length:Int)
  ·rw[if_pos h1]
  by_cases h2:(i:Int)<(b.length:Int)
  ·rw[if_neg h1,if_pos h2]
  rw[if_neg h1,if_neg h2,show decide (c>0)=true from by simp;omega]
 show tribunalref02_addD.l0 (k+1+1) a b out c (i:Int)=_
 rw[e1,tribunalref02_addD.j1,if_pos rfl,rd_getD,rd_getD,hw]
 by_cases h1:(i:Int)<(a.length:Int)
 ·by_cases h2:(i:Int)<(b.length:Int)
  ·have e:(c+a.getD i 0+b.getD i 0)%4294967296=a.getD i 0+b.getD i 0+c:=by omega
   rw[if_pos h1,if_pos Z0,if_pos h2,if_pos Z0,e,IntKind.wrap_u16]
  have e:(c+a.getD i 0)%4294967296=a.getD i 0+b.getD i 0+c:=by have:=getD_ge b i Z0;omega
  rw[if_pos h1,if_pos Z0,if_neg h2,if_pos Z0,e,IntKind.wrap_u16]
 by_cases h2:(i:Int)<(b.length:Int)
 ·have e:(c+b.getD i 0)%4294967296=a.getD i 0+b.getD i 0+c:=by have:=getD_ge a i Z0;omega
  rw[if_neg h1,if_pos h2,if_pos Z0,if_pos Z0,e,IntKind.wrap_u16]
 have e:a.getD i 0+b.getD i 0+c=c:=by have:=getD_ge a i Z0;have:=getD_ge b i Z0;omega
 rw[if_neg h1,if_neg h2,if_pos Z0,e,IntKind.wrap_u16]
theorem addD_end (k:Nat) (a b out:List Int) (c:Int) (i:Nat) (h1:¬i<a.length) (h2:¬i<b.length) (h3:¬0<c):tribunalref02_addD.l0 (k+2) a b out c (i:Int)=some out:=by
 show tribunalref02_addD.l0 (k+1+1) a b out c (i:Int)=_
 rw[tribunalref02_addD.l0,if_neg Z0,if_neg Z0,show decide (c>0)=false from by simp;omega,tribunalref02_addD.j1,if_neg X0]
theorem addD_l0 (a b:List Int) (ha:a.length≤8388600) (hb:b.length≤8388600) (da:Dig 65536 a) (db:Dig 65536 b):∀(n i:Nat) (out:List Int) (c:Int),2*(max a.length b.length-i)+c.toNat≤n→i≤max a.length b.length+1→(i≤max a.length b.length∨c=0)→out.length=i→Dig 65536 out→0≤c∧c≤1→val 65536 out+c*65536^i=val 65536 (a.take i)+val 65536 (b.take i) →
  ∃r,Ev (fun k=>tribunalref02_addD.l0 k a b out c (i:Int)) r∧Dig 65536 r∧val 65536 r=val 65536 a+val 65536 b∧r.length≤max a.length b.length+1:=by
 intro n
 induction n with
 | zero=>
  intro i out c hn him aa ho hd hc hv
  refine⟨out,⟨2,fun k hk=>?_⟩,hd,?_,Z0⟩
  ·obtain⟨k,rfl⟩:∃j,k=j+2:=⟨k-2,Z0⟩
   exact addD_end k a b out c i Z0 Z0 Z0
  rw[List.take_of_length_le Z0,List.take_of_length_le Z0,show c=0 from by omega]at hv
  omega
 | succ n ih=>
  intro i out c hn him aa ho hd hc hv
  by_cases h:i<a.length∨i<b.length∨0<c
  ·have ga:=getD_dig X0 da i
   have gb:=getD_dig X0 db i
   have hx:(a.length≤i→a.getD i 0=0):=getD_ge a i
   have hy:(b.length≤i→b.getD i 0=0):=getD_ge b i
   obtain⟨r,⟨K,hr⟩,hq⟩:=ih (i+1) (out++[(a.getD i 0+b.getD i 0+c)%65536]) ((a.getD i 0+b.getD i 0+c)/65536)
    (by by_cases h4:i<max a.length b.length
        ·omega
        have:=hx Z0;have:=hy Z0;omega)
    Z0
    (by by_cases h4:i<max a.length b.length
        ·omega
        have:=hx Z0;have:=hy Z0;omega)
    V3
    (Dig.append.2 ⟨hd,U4⟩) Z0
    D5
   refine⟨r,⟨K+2,fun k hk=>?_⟩,hq⟩
   obtain⟨k,rfl⟩:∃j,k=j+2:=⟨k-2,Z0⟩
   show tribunalref02_addD.l0 (k+2) a b out c (i:Int)=some r
   rw[addD_step k a b out c i h Z0 Z0 Z0 ho da db hc]
   exact hr k Z0
  refine⟨out,⟨2,fun k hk=>?_⟩,hd,?_,Z0⟩
  ·obtain⟨k,rfl⟩:∃j,k=j+2:=⟨k-2,Z0⟩
   exact addD_end k a b out c i Z0 Z0 Z0
  rw[List.take_of_length_le Z0,List.take_of_length_le Z0,show c=0 from by omega]at hv
  omega
theorem addD_ev (a b:List Int) (ha:a.length≤8388600) (hb:b.length≤8388600) (da:Dig 65536 a) (db:Dig 65536 b) :
  ∃r,Ev (fun k=>tribunalref02_addD.f k a b) r∧Dig 65536 r∧val 65536 r=val 65536 a+val 65536 b∧r.length≤max a.length b.length+1:=by
 obtain⟨r,⟨K,hr⟩,hq⟩:=addD_l0 a b ha hb da db _ 0 [] 0 (Nat.le_refl _) Z0 (.inr rfl) rfl Dig.nil Z0 F6
 refine⟨r,⟨K,fun k hk=>?_⟩,hq⟩
 show tribunalref02_addD.f k a b=some r
 rw[tribunalref02_addD.f]
 exact hr k hk
theorem w32 (n:Int) (h:-2147483648≤n∧n≤2147483647):wrap32 n=n:=by unfold wrap32;omega
theorem subD_step (k:Nat) (a b out:List Int) (c:Int) (i:Nat) (hi:i<a.length) (ha:a.length≤8388608) (ho:out.length=i) (da:Dig 65536 a) (db:Dig 65536 b) (hc:0≤c∧c≤1) :
  tribunalref02_subD.l0 (k+1) a b out c (i:Int)=tribunalref02_subD.l0 k a b (out++[(a.getD i 0-b.getD i 0-c)%65536]) (if a.getD i 0<b.getD i 0+c then 1 else 0) ((i+1:Nat):Int):=by
 have ga:=getD_dig X0 da i
 have gb:=getD_dig X0 db i
 have hw:wrap64 ((i:Int)+1)=((i+1:Nat):Int):=by rw[w64 _ Z0];omega
 rw[tribunalref02_subD.l0,rd_getD,rd_getD,hw,w32 (a.getD i 0) Z0,w32 (b.getD i 0) Z0,w32 (a.getD i 0-c) Z0,w32 (a.getD i 0-c-b.getD i 0) Z0,w32 (a.getD i 0-c-b.getD i 0+65536) Z0,w32 (a.getD i 0-c+65536) Z0,if_pos Z0,if_pos Z0]
 by_cases h2:(i:Int)<(b.length:Int)
 ·rw[if_pos h2]
  by_cases h3:a.getD i 0-c-b.getD i 0<0
  ·rw[if_pos h3,if_pos Z0,if_pos Z0,IntKind.wrap_u16,show(a.getD i 0-c-b.getD i 0+65536)%65536=(a.getD i 0-b.getD i 0-c)%65536 from by omega]
  rw[if_neg h3,if_pos Z0,if_neg Z0,IntKind.wrap_u16,show(a.getD i 0-c-b.getD i 0)%65536=(a.getD i 0-b.getD i 0-c)%65536 from by omega]
 have h0:=getD_ge b i Z0
 rw[if_neg h2]
 by_cases h3:a.getD i 0-c<0
 ·rw[if_pos h3,if_pos Z0,if_pos Z0,IntKind.wrap_u16,show(a.getD i 0-c+65536)%65536=(a.getD i 0-b.getD i 0-c)%65536 from by omega]
 rw[if_neg h3,if_pos Z0,if_neg Z0,IntKind.wrap_u16,show(a.getD i 0-c)%65536=(a.getD i 0-b.getD i 0-c)%65536 from by omega]
theorem subD_l0 (a b:List Int) (hl:a.length≤8388608) (hb:b.length≤a.length) (hle:val 65536 b≤val 65536 a) (da:Dig 65536 a) (db:Dig 65536 b):∀(n i:Nat) (out:List Int) (c:Int),i+n=a.length→out.length=i→Dig 65536 out→0≤c∧c≤1→val 65536 out-c*65536^i=val 65536 (a.take i)-val 65536 (b.take i) →
  ∃r,Ev (fun k=>tribunalref02_subD.l0 k a b out c (i:Int)) r∧Rep 65536 (val 65536 a-val 65536 b) r:=by
 intro n
 induction n with
 | zero=>
  intro i out c hi ho hd hc hv
  obtain⟨r,⟨K,hr⟩,h1,h2,h3⟩:=tribunalref02_trim_ev (B:=65536) (l:=out) Z0 hd
  refine⟨r,⟨K+1,fun k hk=>?_⟩,h1,h2,?_⟩
  ·obtain⟨k,rfl⟩:∃j,k=j+1:=⟨k-1,Z0⟩
   have hk':tribunalref02_trim.f k out=some r:=hr k Z0
   show tribunalref02_subD.l0 (k+1) a b out c (i:Int)=some r
   rw[tribunalref02_subD.l0,if_neg Z0,hk',Option.bind_some]
  rw[h3]
  rw[List.take_of_length_le Z0,List.take_of_length_le Z0]at hv
  have g1:=val_lt (B:=65536) X0 hd
  have g2:=val_nonneg (B:=65536) X0 hd
  rw[ho]at g1
  exact borrow_none ⟨g2,g1⟩ hc hle hv
 | succ n ih=>
  intro i out c hi ho hd hc hv
  have hil:i<a.length:=by omega
  have ga:=getD_dig X0 da i
  have gb:=getD_dig X0 db i
  obtain⟨r,⟨K,hr⟩,hq⟩:=ih (i+1) (out++[(a.getD i 0-b.getD i 0-c)%65536]) (if a.getD i 0<b.getD i 0+c then 1 else 0) Z0 V3
   (Dig.append.2 ⟨hd,U4⟩) U6
   F5
  refine⟨r,⟨K+1,fun k hk=>?_⟩,hq⟩
  obtain⟨k,rfl⟩:∃j,k=j+1:=⟨k-1,Z0⟩
  show tribunalref02_subD.l0 (k+1) a b out c (i:Int)=some r
  rw[subD_step k a b out c i hil hl ho da db hc]
  exact hr k Z0
theorem subD_ev (a b:List Int) (ha:a.length≤8388608) (hb:b.length≤a.length) (hle:val 65536 b≤val 65536 a) (da:Dig 65536 a) (db:Dig 65536 b) :
  ∃r,Ev (fun k=>tribunalref02_subD.f k a b) r∧Rep 65536 (val 65536 a-val 65536 b) r:=by
 obtain⟨r,⟨K,hr⟩,hq⟩:=subD_l0 a b ha hb hle da db a.length 0 [] 0 Z0 rfl Dig.nil Z0 F6
 refine⟨r,⟨K,fun k hk=>?_⟩,hq⟩
 show tribunalref02_subD.f k a b=some r
 rw[tribunalref02_subD.f]
 exact hr k hk
theorem Make_ev (s:Bool) (l:List Int) (hl:l.length<9223372036854775807) (hd:Dig 65536 l):∃r,Ev (fun k=>tribunalref02_Make.f k s l) (s&&decide (0<r.length),r)∧Dig 65536 r∧Top r∧val 65536 r=val 65536 l:=by
 obtain⟨r,⟨K,hr⟩,h⟩:=tribunalref02_trim_ev (B:=65536) (l:=l) hl hd
 refine⟨r,⟨K,fun k hk=>?_⟩,h⟩
 have hk':tribunalref02_trim.f k l=some r:=hr k hk
 show tribunalref02_Make.f k s l=_
 simp only[tribunalref02_Make.f,hk',Option.bind_some]
 cases s<;>simp
theorem Make_num {v:Int} {l:List Int} (b:Bool) (hl:l.length<9223372036854775807) (hd:Dig 65536 l) (hv:val 65536 l=v) {n:Int} (hn:n=if b then -v else v):∃u r,Ev (fun k=>tribunalref02_Make.f k b l) (u,r)∧Num 65536 n u r:=by
 obtain⟨r,h,h1,h2,h3⟩:=Make_ev b l hl hd
 exact⟨_,r,h,Num.of_rep' X0 ⟨h1,h2,h3.trans hv⟩ b hn⟩
theorem rplus_num {n m:Int} {s t:Bool} {a b:List Int} (ha:Num 65536 n s a) (hb:Num 65536 m t b) (la:a.length≤8388600) (lb:b.length≤8388600) :
  ∃u r,Ev (fun k=>tribunalref02_Plus.f k s a t b) (u,r)∧Num 65536 (n+m) u r:=by
 have e1:=ha.sign
 have e2:=hb.sign
 by_cases hst:s=t
 ·obtain⟨r0,⟨K,hr⟩,h1,h2,h3⟩:=addD_ev a b la lb ha.rep.dig hb.rep.dig
  rw[ha.rep.val,hb.rep.val]at h2
  obtain⟨u,r,⟨K2,hr2⟩,hN⟩:=Make_num s Z0 h1 h2 (n:=n+m) (by subst hst;cases s<;>simp at e1 e2 ⊢<;>omega)
  refine⟨u,r,⟨max K K2,fun k hk=>?_⟩,hN⟩
  have g:tribunalref02_addD.f k a b=some r0:=hr k Z0
  have g2:tribunalref02_Make.f k s r0=_:=hr2 k Z0
  show tribunalref02_Plus.f k s a t b=_
  rw[tribunalref02_Plus.f,if_pos (by rw[hst];exact beq_self_eq_true t),g,Option.bind_some,g2,Option.bind_some]
 obtain⟨K1,h1⟩:=tribunalref02_cmpD_ev a b Z0 Z0 ha.rep.dig hb.rep.dig ha.rep.top hb.rep.top
 have hne:¬(s==t)=true:=by intro h;exact hst (eq_of_beq h)
 by_cases hle:val 65536 b≤val 65536 a
 ·obtain⟨r0,⟨K,hr⟩,hR⟩:=subD_ev a b Z0 (len_of_le X0 ha.rep.dig hb.rep.dig hb.rep.top hle) hle ha.rep.dig hb.rep.dig
  have hlen:r0.length≤a.length:=rep_len X0 hR (by have:=val_lt (B:=65536) X0 ha.rep.dig;have:=val_nonneg (B:=65536) X0 hb.rep.dig;omega)
  have hle':=hle
  rw[ha.rep.val,hb.rep.val]at hR hle'
  obtain⟨u,r,⟨K2,hr2⟩,hN⟩:=Make_num s Z0 hR.dig hR.val (n:=n+m) F4
  refine⟨u,r,⟨max K1 (max K K2),fun k hk=>?_⟩,hN⟩
  have g:tribunalref02_subD.f k a b=some r0:=hr k Z0
  have g1:tribunalref02_cmpD.f k a b=_:=h1 k Z0
  have g2:tribunalref02_Make.f k s r0=_:=hr2 k Z0
  show tribunalref02_Plus.f k s a t b=_
  rw[tribunalref02_Plus.f,if_neg hne,g1,Option.bind_some,if_pos (sg_ge.2 Z0),g,Option.bind_some,g2,Option.bind_some]
 have aa:val 65536 a≤val 65536 b:=by omega
 obtain⟨r0,⟨K,hr⟩,hR⟩:=subD_ev b a Z0 (len_of_le X0 hb.rep.dig ha.rep.dig ha.rep.top aa) aa hb.rep.dig ha.rep.dig
 have hlen:r0.length≤b.length:=rep_len X0 hR (by have:=val_lt (B:=65536) X0 hb.rep.dig;have:=val_nonneg (B:=65536) X0 ha.rep.dig;omega)
 have hle':=aa
 rw[ha.rep.val,hb.rep.val]at hR hle'
 obtain⟨u,r,⟨K2,hr2⟩,hN⟩:=Make_num t Z0 hR.dig hR.val (n:=n+m) F4
 refine⟨u,r,⟨max K1 (max K K2),fun k hk=>?_⟩,hN⟩
 have g:tribunalref02_subD.f k b a=some r0:=hr k Z0
 have g1:tribunalref02_cmpD.f k a b=_:=h1 k Z0
 have g2:tribunalref02_Make.f k t r0=_:=hr2 k Z0
 show tribunalref02_Plus.f k s a t b=_
 rw[tribunalref02_Plus.f,if_neg hne,g1,Option.bind_some,if_neg (fun x=>hle (by have:=sg_ge.1 x;omega)),g,Option.bind_some,g2,Option.bind_some]
theorem rminus_num {n:Int} {s:Bool} {a:List Int} (ha:Num 65536 n s a) (la:a.length≤8388608):∃u r,Ev (fun k=>tribunalref02_Minus.f k s a) (u,r)∧Num 65536 (-n) u r:=by
 have e1:=ha.sign
 obtain⟨u,r,⟨K,hr⟩,hN⟩:=Make_num (!s) Z0 ha.rep.dig ha.rep.val (n := -n) (by cases s<;>simp at e1 ⊢<;>omega)
 refine⟨u,r,⟨K,fun k hk=>?_⟩,hN⟩
 have g:tribunalref02_Make.f k (!s) a=_:=hr k hk
 show tribunalref02_Minus.f k s a=_
 rw[tribunalref02_Minus.f,g,Option.bind_some]
theorem rep_four {v:Int} (h:0≤v∧v<18446744073709551616) (b:Bool) {n:Int} (hn:n=if b then -v else v):∃u r,Ev (fun k=>tribunalref02_Make.f k b [IntKind.u16.wrap v,IntKind.u16.wrap (v/65536),IntKind.u16.wrap (v/4294967296),IntKind.u16.wrap (v/281474976710656)]) (u,r)∧Num 65536 n u r∧r.length≤4:=by
 obtain⟨hv4,hd4⟩:=limb4 v h
 obtain⟨u,r,hr,hN⟩:=Make_num b Z1 hd4 hv4 hn
 refine⟨u,r,hr,hN,rep_len X0 hN.rep ?_⟩
 rw[←pow4]
 cases b<;>simp at hn<;>omega
theorem u64_neg {n:Int} (h:-9223372036854775808≤n∧n<0):IntKind.u64.wrap (-(IntKind.u64.wrap n)) = -n:=by
 simp only[IntKind.wrap_u64];omega
theorem u64_pos {n:Int} (h:0≤n∧n≤9223372036854775807):IntKind.u64.wrap n=n:=by
 simp only[IntKind.wrap_u64];omega
theorem Small1_num {n:Int} (h:-9223372036854775808≤n∧n≤9223372036854775807):∃u d,Ev (fun k=>tribunalref02_Small1.f k n) (u,d)∧Num 65536 n u d∧d.length≤4:=by
 by_cases h0:n<0
 ·obtain⟨u,r,⟨K,hr⟩,hN⟩:=rep_four (v := -n) Z0 true (n:=n) Z1
  refine⟨u,r,⟨K,fun k hk=>?_⟩,hN⟩
  have g:=hr k hk
  show tribunalref02_Small1.f k n=_
  rw[tribunalref02_Small1.f,if_pos h0,u64_neg Z0]
  replace g:tribunalref02_Make.f k true _=_:=g
  rw[g,Option.bind_some]
 obtain⟨u,r,⟨K,hr⟩,hN⟩:=rep_four (v:=n) Z0 false (n:=n) Z1
 refine⟨u,r,⟨K,fun k hk=>?_⟩,hN⟩
 have g:=hr k hk
 show tribunalref02_Small1.f k n=_
 rw[tribunalref02_Small1.f,if_neg h0,u64_pos Z0]
 replace g:tribunalref02_Make.f k false _=_:=g
 rw[g,Option.bind_some]
theorem getD_set_ne (l:List Int) (i t:Nat) (v:Int) (h:i≠t):(l.set i v).getD t 0=l.getD t 0:=by
 simp[List.getD_eq_getElem?_getD,List.getElem?_set_ne h]
theorem or_add (t:Nat) {x y:Int} (hx:0≤x∧x<18446744073709551616) (hd:∃c,x=c*2^t) (hy:0≤y∧y<2^t) (hy2:y<18446744073709551616):Go.bits .or .u64 x y=x+y∧Go.bits .or .u64 y x=x+y:=by
 obtain⟨c,rfl⟩:=hd
 have hp:(0:Int)<2^t:=Int.pow_pos X0
 have hc:0≤c:=by
  refine Classical.byContradiction fun h=>?_
  have:=Int.mul_le_mul_of_nonneg_right (show c ≤ -1 by omega) (Int.le_of_lt hp)
  omega
 obtain⟨n,rfl⟩:=Int.eq_ofNat_of_zero_le hc
 obtain⟨m,rfl⟩:=Int.eq_ofNat_of_zero_le hy.1
 have hpc:((2:Int)^t)=((2^t:Nat):Int):=by simp
 rw[hpc]at hx hy ⊢
 have hm:m<2^t:=by have:=hy.2;omega
 rw[←Int.natCast_mul]at hx ⊢
 have e:n*2^t ||| m=n*2^t+m:=by
  have:=Nat.shiftLeft_add_eq_or_of_lt (i:=t) (b:=m) hm n
  rw[Nat.shiftLeft_eq]at this
  exact this.symm
 constructor
 ·rw[bits_or_u64_nat _ _ Z0 Z0,e];omega
 rw[bits_or_u64_nat _ _ Z0 Z0,Nat.or_comm,e];omega
theorem or_nil {x:Int} (hx:0≤x∧x<18446744073709551616):Go.bits .or .u64 0 x=x:=by
 have:=(or_add 0 (x:=x) (y:=0) hx ⟨x,Z1⟩ Z1 X0).2
 rw[this];omega
structure Sh (s P Q:Int):Prop where
 s0:0≤s∧s≤63
 P0:0<P
 Q0:0<Q
 PQ:P*Q=18446744073709551616
 P1:∃t:Nat,P=2^t∧s.toNat=t
 Q1:∃t:Nat,Q=2^t∧64-s.toNat=t
theorem Sh.P_le {s P Q:Int} (h:Sh s P Q):P≤18446744073709551616:=by
 have:=Int.mul_le_mul_of_nonneg_left (show(1:Int)≤Q by have:=h.Q0;omega) (Int.le_of_lt h.P0)
 rw[h.PQ]at this;omega
theorem Sh.Q_le {s P Q:Int} (h:Sh s P Q):Q≤18446744073709551616:=by
 have:=Int.mul_le_mul_of_nonneg_right (show(1:Int)≤P by have:=h.P0;omega) (Int.le_of_lt h.Q0)
 rw[h.PQ]at this;omega
theorem shl_parts {P Q x:Int} (hP:0<P) (hQ:0<Q) (hPQ:P*Q=18446744073709551616) (hx:0≤x∧x<18446744073709551616) :
  x*P=x/Q*18446744073709551616+x%Q*P∧0≤x/Q∧x/Q<P∧0≤x%Q*P∧x%Q*P<18446744073709551616∧(x*P)%18446744073709551616=x%Q*P:=by
 have h1:=Int.mul_ediv_add_emod x Q
 have h2:=Int.emod_nonneg x (Int.ne_of_gt hQ)
 have h3:=Int.emod_lt_of_pos x hQ
 have h4:0≤x/Q:=Int.ediv_nonneg hx.1 (Int.le_of_lt hQ)
 have e:x*P=x/Q*18446744073709551616+x%Q*P:=by
  have:x*P=(Q*(x/Q)+x%Q)*P:=by rw[h1]
  rw[this,Int.add_mul,←hPQ,Int.mul_comm Q,Int.mul_assoc,Int.mul_comm Q P]
 have h5:0≤x%Q*P:=Int.mul_nonneg h2 (Int.le_of_lt hP)
 have h6:x%Q*P<18446744073709551616:=by
  rw[←hPQ,Int.mul_comm P Q]
  exact Int.mul_lt_mul_of_pos_right h3 hP
 refine⟨e,h4,?_,h5,h6,?_⟩
 ·refine Int.ediv_lt_of_lt_mul hQ ?_
  rw[hPQ];exact hx.2
 rw[e,Int.mul_add_emod_self_right];exact Int.emod_eq_of_lt h5 h6
theorem Sh.eqL {s P Q x:Int} (h:Sh s P Q) (hx:0≤x∧x<18446744073709551616):shl .u64 x s=x%Q*P:=by
 obtain⟨t,e,et⟩:=h.P1
 have:=(shl_parts h.P0 h.Q0 h.PQ hx).2.2.2.2.2
 have hs:=h.s0
 unfold Go.Proofs.YtncomlmhagaajaaGreatW.PrintWords.shl
 rw[show min s.toNat IntKind.u64.bits=t from by show min s.toNat 64=t;omega,←e,IntKind.wrap_u64,this]
theorem Sh.eqR {s P Q x:Int} (h:Sh s P Q):shr .u64 x s=x/P:=by
 obtain⟨t,e,et⟩:=h.P1
 have hs:=h.s0
 unfold Go.Proofs.YtncomlmhagaajaaGreatW.PrintWords.shr
 rw[show min s.toNat IntKind.u64.bits=t from by show min s.toNat 64=t;omega,←e]
theorem Sh.count {s P Q:Int} (h:Sh s P Q):IntKind.u64.wrap (64-s)=64-s:=by
 have hs:=h.s0
 rw[IntKind.wrap_u64];omega
theorem Sh.eqR' {s P Q x:Int} (h:Sh s P Q):shr .u64 x (64-s)=x/Q:=by
 obtain⟨t,e,et⟩:=h.Q1
 have hs:=h.s0
 unfold Go.Proofs.YtncomlmhagaajaaGreatW.PrintWords.shr
 rw[show min (64-s).toNat IntKind.u64.bits=t from by show min (64-s).toNat 64=t;omega,←e]
theorem Sh.eqL' {s P Q x:Int} (h:Sh s P Q) (hx:0≤x∧x<18446744073709551616):shl .u64 x (64-s)=x%P*Q:=by
 obtain⟨t,e,et⟩:=h.Q1
 have:=(shl_parts h.Q0 h.P0 (by rw[Int.mul_comm];exact h.PQ) hx).2.2.2.2.2
 have hs:=h.s0
 unfold Go.Proofs.YtncomlmhagaajaaGreatW.PrintWords.shl
 rw[show min (64-s).toNat IntKind.u64.bits=t from by show min (64-s).toNat 64=t;omega,←e,IntKind.wrap_u64,this]
theorem val_set_getD (B:Int) (l:List Int) (i:Nat) (v:Int) (hi:i<l.length):val B (l.set i v)=val B l+(v-l.getD i 0)*B^i:=by
 rw[val_set B l i v hi,List.getD_eq_getElem?_getD,List.getElem?_eq_getElem hi,Option.getD_some]
theorem getD_set_eq (l:List Int) (i:Nat) (v:Int) (hi:i<l.length):(l.set i v).getD i 0=v:=by
 rw[List.getD_eq_getElem?_getD,List.getElem?_set_self hi,Option.getD_some]
theorem div_eq {T y g:Int} (hy:0<y) (h1:g*y≤T) (h2:T<(g+1)*y):T/y=g:=by
 have:=Int.le_ediv_of_mul_le hy h1
 have:=Int.ediv_lt_of_lt_mul hy h2
 omega
structure Half (y yn1 yn0 u d q r:Int):Prop where
 hy:y=yn1*4294967296+yn0
 y1:2147483648≤yn1∧yn1<4294967296
 y0:0≤yn0∧yn0<4294967296
 hu:0≤u∧u<y
 hd:0≤d∧d<4294967296
 hq:0≤q∧q≤4294967297
 hr:0≤r∧r<4294967296
 hqr:u=q*yn1+r
 top:u*4294967296+d<(q+1)*y
theorem Half.start {y yn1 yn0 u d:Int} (hy:y=yn1*4294967296+yn0) (y1:2147483648≤yn1∧yn1<4294967296) (y0:0≤yn0∧yn0<4294967296) (hu:0≤u∧u<y) (hd:0≤d∧d<4294967296):Half y yn1 yn0 u d (u/yn1) (u%yn1):=by
 have h1:=Int.mul_ediv_add_emod u yn1
 have h2:=Int.emod_nonneg u (show yn1≠0 by omega)
 have h3:=Int.emod_lt_of_pos u (show 0<yn1 by omega)
 have h4:0≤u/yn1:=Int.ediv_nonneg hu.1 Z0
 have h5:u/yn1<4294967298:=Int.ediv_lt_of_lt_mul Z0 Z0
 rw[Int.mul_comm]at h1
 refine⟨hy,y1,y0,hu,hd,⟨h4,Z0⟩,⟨h2,Z0⟩,h1.symm,?_⟩
 have h6:0≤(u/yn1+1)*yn0:=Int.mul_nonneg Z0 y0.1
 have h7:(u/yn1+1)*y=(u/yn1*yn1+yn1)*4294967296+(u/yn1+1)*yn0:=by
  rw[hy,Int.mul_add,←Int.mul_assoc,Int.add_mul (u/yn1) 1 yn1,Int.one_mul]
 rw[h7];omega
theorem Half.eqs {y yn1 yn0 u d q r:Int} (h:Half y yn1 yn0 u d q r):u*4294967296+d-q*y=r*4294967296+d-q*yn0:=by
 have e:q*y=q*yn1*4294967296+q*yn0:=by rw[h.hy,Int.mul_add,←Int.mul_assoc]
 have:=h.hqr
 rw[e];omega
theorem Half.below {y yn1 yn0 u d q r:Int} (h:Half y yn1 yn0 u d q r):u*4294967296+d<4294967296*y:=by
 have:=h.hu;have:=h.hd;omega
theorem Half.good {y yn1 yn0 u d q r:Int} (h:Half y yn1 yn0 u d q r) (hc:q*yn0≤r*4294967296+d):(u*4294967296+d)/y=q:=by
 have e:=h.eqs
 have hy:=h.hy;have h1:=h.y1;have h2:=h.y0
 exact div_eq Z0 Z0 h.top
theorem Half.much {y yn1 yn0 u d q r:Int} (h:Half y yn1 yn0 u d q r) (hc:q≥4294967296∨q*yn0>r*4294967296+d):u*4294967296+d<q*y∧1≤q:=by
 have e:=h.eqs
 have hy:=h.hy;have h1:=h.y1;have h2:=h.y0;have h3:=h.hd;have h4:=h.hr;have h5:=h.hq
 rcases hc with hc|hc
 ·have:=h.below
  have h6:=Int.mul_le_mul_of_nonneg_right (show 4294967296≤q from hc) (show 0≤y by omega)
  omega
 refine⟨Z0,?_⟩
 refine Classical.byContradiction fun hx=>?_
 have:q=0:=by omega
 rw[this]at hc;omega
theorem Half.next {y yn1 yn0 u d q r:Int} (h:Half y yn1 yn0 u d q r) (hc:q≥4294967296∨q*yn0>r*4294967296+d) (hr:r+yn1<4294967296):Half y yn1 yn0 u d (q-1) (r+yn1):=by
 obtain⟨h1,h2⟩:=h.much hc
 have h3:=h.hqr;have h4:=h.hq;have h5:=h.hr;have h6:=h.y1
 refine⟨h.hy,h.y1,h.y0,h.hu,h.hd,Z0,Z0,?_,by rw[show q-1+1=q from by omega];exact h1⟩
 rw[Int.sub_mul,Int.one_mul];omega
theorem Half.last {y yn1 yn0 u d q r:Int} (h:Half y yn1 yn0 u d q r) (hc:q≥4294967296∨q*yn0>r*4294967296+d) (hr:r+yn1≥4294967296):(u*4294967296+d)/y=q-1:=by
 obtain⟨h1,h2⟩:=h.much hc
 have h3:=h.hqr;have h4:=h.hq;have h5:=h.hr;have h6:=h.y1;have h7:=h.y0;have h8:=h.hd;have hy:=h.hy
 refine div_eq Z0 ?_ (by rw[show q-1+1=q from by omega];exact h1)
 have e:=h.eqs
 have e2:(q-1)*y=q*y-y:=by rw[Int.sub_mul,Int.one_mul]
 have e3:(q-1)*yn0=q*yn0-yn0:=by rw[Int.sub_mul,Int.one_mul]
 have h9:=Int.mul_le_mul (show q-1≤4294967296 by omega) (show yn0≤4294967295 by omega) h7.1 X0
 rw[e2];omega
theorem Half.quot {y yn1 yn0 u d q r:Int} (h:Half y yn1 yn0 u d q r):0≤(u*4294967296+d)/y∧(u*4294967296+d)/y<4294967296:=by
 have h3:=h.hu;have h4:=h.hd;have hy:=h.hy;have h6:=h.y1;have h7:=h.y0
 exact⟨Int.ediv_nonneg Z0 Z0,Int.ediv_lt_of_lt_mul Z0 h.below⟩
theorem Half.qy {y yn1 yn0 u d q r:Int} (h:Half y yn1 yn0 u d q r) (hq:q<4294967296):0≤q*yn0∧q*yn0<18446744073709551616:=by
 have h1:=h.y0;have h2:=h.hq
 refine⟨Int.mul_nonneg h2.1 h1.1,?_⟩
 have:=Int.mul_le_mul (show q≤4294967295 by omega) (show yn0≤4294967295 by omega) h1.1 X0
 omega
theorem u64_in {x:Int} (h:0≤x∧x<18446744073709551616):IntKind.u64.wrap x=x:=by
 rw[IntKind.wrap_u64];omega
theorem Div64_l0 {y yn1 yn0 u d:Int} (s e:Int) (R:Int×Int) (hR:Ev (fun k=>bits_Div64.j2 k y s yn1 yn0 u d e ((u*4294967296+d)/y)) R):∀(n:Nat) (q r:Int),(4294967296-r).toNat≤n→Half y yn1 yn0 u d q r→Ev (fun k=>bits_Div64.l0 k y s yn1 yn0 u d e q r) R:=by
 obtain⟨K0,hR⟩:=hR
 intro n
 induction n with
 | zero=>intro q r hn h;have:=h.hr;omega
 | succ n ih=>
  intro q r hn h
  have h2:=h.hq;have h3:=h.hr;have h4:=h.y1;have h5:=h.hd;have h6:=h.y0
  have key:∀k,bits_Div64.l0 (k+1) y s yn1 yn0 u d e q r=bits_Div64.j1 k y s yn1 yn0 u d e q r (decide (q≥4294967296∨q*yn0>r*4294967296+d)):=by
   intro k
   rw[bits_Div64.l0]
   by_cases hc:q≥4294967296
   ·rw[if_pos hc,decide_eq_true (Or.inl hc)]
   have:=h.qy Z0
   rw[if_neg hc,u64_in this,u64_in (x:=4294967296*r) Z0,u64_in (x:=4294967296*r+d) Z0]
   congr 1
   apply Bool.eq_iff_iff.2
   simp only[decide_eq_true_eq]
   constructor
   ·intro hx;right;omega
   intro hx;rcases hx with hx|hx<;>omega
  by_cases hc:q≥4294967296∨q*yn0>r*4294967296+d
  ·have hq1:=(h.much hc).2
   by_cases ho:r+yn1≥4294967296
   ·refine⟨K0+2,fun k hk=>?_⟩
    obtain⟨k,rfl⟩:∃j,k=j+2:=⟨k-2,Z0⟩
    show bits_Div64.l0 (k+1+1) y s yn1 yn0 u d e q r=some R
    rw[key,decide_eq_true hc,bits_Div64.j1,if_pos rfl,u64_in (x:=r+yn1) Z0,if_pos ho,u64_in (x:=q-1) Z0,←h.last hc ho]
    exact hR k Z0
   obtain⟨K1,h1⟩:=ih (q-1) (r+yn1) Z0 (h.next hc Z0)
   refine⟨K1+2,fun k hk=>?_⟩
   obtain⟨k,rfl⟩:∃j,k=j+2:=⟨k-2,Z0⟩
   show bits_Div64.l0 (k+1+1) y s yn1 yn0 u d e q r=some R
   rw[key,decide_eq_true hc,bits_Div64.j1,if_pos rfl,u64_in (x:=r+yn1) Z0,if_neg ho,u64_in (x:=q-1) Z0]
   exact h1 k Z0
  refine⟨K0+2,fun k hk=>?_⟩
  obtain⟨k,rfl⟩:∃j,k=j+2:=⟨k-2,Z0⟩
  show bits_Div64.l0 (k+1+1) y s yn1 yn0 u d e q r=some R
  rw[key,decide_eq_false hc,bits_Div64.j1,if_neg X0]
  have hg:=h.good Z0
  rw[←hg]
  exact hR k Z0
theorem Div64_fin {y s P Q u d q g:Int} (h:Sh s P Q) (hy:0<y∧y<18446744073709551616) (hu:0≤u∧u<y) (hd:0≤d∧d<4294967296) (hg:(u*4294967296+d)/y=g) (hg0:0≤g∧g<4294967296) (hq:0≤q∧q<4294967296) :
  (if 0≤s then some (IntKind.u64.wrap (IntKind.u64.wrap (q*4294967296)+g),Go.Proofs.YtncomlmhagaajaaGreatW.PrintWords.shr .u64 (IntKind.u64.wrap (IntKind.u64.wrap (IntKind.u64.wrap (u*4294967296)+d)-IntKind.u64.wrap (g*y))) s) else none)=some (q*4294967296+g,(u*4294967296+d)%y/P):=by
 have hs:=h.s0
 have h1:=Int.emod_nonneg (u*4294967296+d) (show y≠0 by omega)
 have h2:=Int.emod_lt_of_pos (u*4294967296+d) hy.1
 have h3:=Int.mul_ediv_add_emod (u*4294967296+d) y
 rw[hg,Int.mul_comm y g]at h3
 rw[if_pos hs.1,u64_in (x:=q*4294967296) Z0,u64_in (x:=q*4294967296+g) Z0,h.eqR]
 have e:IntKind.u64.wrap (IntKind.u64.wrap (IntKind.u64.wrap (u*4294967296)+d)-IntKind.u64.wrap (g*y))=(u*4294967296+d)%y:=by
  simp only[IntKind.wrap_u64]
  omega
 rw[e]
theorem Div64_l1 {y yn1 yn0 u d s P Q:Int} (hs:Sh s P Q) (hy:0<y∧y<18446744073709551616) (g:Int) (hg:0≤g∧g<4294967296):∀(n:Nat) (q r:Int),(4294967296-r).toNat≤n→Half y yn1 yn0 u d q r→Ev (fun k=>bits_Div64.l1 k y s yn1 yn0 d g r u q) (g*4294967296+(u*4294967296+d)/y,(u*4294967296+d)%y/P):=by
 intro n
 induction n with
 | zero=>intro q r hn h;have:=h.hr;omega
 | succ n ih=>
  intro q r hn h
  have h2:=h.hq;have h3:=h.hr;have h4:=h.y1;have h5:=h.hd;have h6:=h.y0
  have hquot:=h.quot
  have key:∀k,bits_Div64.l1 (k+1) y s yn1 yn0 d g r u q=bits_Div64.j4 k y s yn1 yn0 d g r u q (decide (q≥4294967296∨q*yn0>r*4294967296+d)):=by
   intro k
   rw[bits_Div64.l1]
   by_cases hc:q≥4294967296
   ·rw[if_pos hc,decide_eq_true (Or.inl hc)]
   have:=h.qy Z0
   rw[if_neg hc,u64_in this,u64_in (x:=4294967296*r) Z0,u64_in (x:=4294967296*r+d) Z0]
   congr 1
   apply Bool.eq_iff_iff.2
   simp only[decide_eq_true_eq]
   constructor
   ·intro hx;right;omega
   intro hx;rcases hx with hx|hx<;>omega
  by_cases hc:q≥4294967296∨q*yn0>r*4294967296+d
  ·have hq1:=(h.much hc).2
   by_cases ho:r+yn1≥4294967296
   ·have hl:=h.last hc ho
    refine⟨2,fun k hk=>?_⟩
    obtain⟨k,rfl⟩:∃j,k=j+2:=⟨k-2,Z0⟩
    show bits_Div64.l1 (k+1+1) y s yn1 yn0 d g r u q=_
    rw[key,decide_eq_true hc,bits_Div64.j4,if_pos rfl,u64_in (x:=r+yn1) Z0,if_pos ho,u64_in (x:=q-1) Z0,Div64_fin hs hy h.hu h.hd hl (by rw[←hl];exact hquot) hg,hl]
   obtain⟨K1,h1⟩:=ih (q-1) (r+yn1) Z0 (h.next hc Z0)
   refine⟨K1+2,fun k hk=>?_⟩
   obtain⟨k,rfl⟩:∃j,k=j+2:=⟨k-2,Z0⟩
   show bits_Div64.l1 (k+1+1) y s yn1 yn0 d g r u q=_
   rw[key,decide_eq_true hc,bits_Div64.j4,if_pos rfl,u64_in (x:=r+yn1) Z0,if_neg ho,u64_in (x:=q-1) Z0]
   exact h1 k Z0
  have hl:=h.good Z0
  refine⟨2,fun k hk=>?_⟩
  obtain⟨k,rfl⟩:∃j,k=j+2:=⟨k-2,Z0⟩
  show bits_Div64.l1 (k+1+1) y s yn1 yn0 d g r u q=_
  rw[key,decide_eq_false hc,bits_Div64.j4,if_neg X0,Div64_fin hs hy h.hu h.hd hl (by rw[←hl];exact hquot) hg,hl]
theorem up_or {s P Q:Int} (h:Sh s P Q) {o x:Int} (hx:0≤x∧x<18446744073709551616) (ho:0≤o∧o<P):Go.bits .or .u64 o (x%Q*P)=o+x%Q*P:=by
 obtain⟨t,et,_⟩:=h.P1
 obtain⟨_,_,_,e4,e5,_⟩:=shl_parts h.P0 h.Q0 h.PQ hx
 have hP:=h.P_le
 rw[(or_add t ⟨e4,e5⟩ ⟨x%Q,by rw[et]⟩ (by rw[←et];exact ho) Z0).2,Int.add_comm]
theorem up_out0 {s P Q:Int} (h:Sh s P Q) (h0:¬s>0) {x:Int} (hx:0≤x∧x<18446744073709551616):x/Q=0:=by
 obtain⟨t,et,es⟩:=h.P1
 have hs:=h.s0
 have hP1:P=1:=by rw[et,←es,show s=0 from by omega];rfl
 have hQ1:Q=18446744073709551616:=by have:=h.PQ;rw[hP1]at this;omega
 rw[hQ1];exact Int.ediv_eq_zero_of_lt hx.1 hx.2
theorem set_same (l:List Int) (i:Nat) (h:l.getD i 0=0):l.set i 0=l:=by
 refine List.ext_getElem Z1 fun j h1 h2=>?_
 by_cases hj:j=i
 ·subst hj
  rw[List.getElem_set_self]
  rw[List.getD_eq_getElem?_getD,List.getElem?_eq_getElem h2,Option.getD_some]at h
  exact h.symm
 rw[List.getElem_set_ne (fun e=>hj e.symm)]
theorem step_wrap (i n:Nat) (hi:i<n) (hn:n≤8388608):wrap64 ((i:Int)+1)=((i+1:Nat):Int):=by rw[w64 _ Z0];omega
theorem up_step (k:Nat) {s P Q:Int} (h:Sh s P Q) (a out:List Int) (i:Nat) (hi:i<a.length) (hl:a.length≤8388608) (ho:out.length=a.length+1) (da:Dig 18446744073709551616 a) (hw:0≤out.getD i 0∧out.getD i 0<P) (hz:out.getD (i+1) 0=0) :
  whole_amount_up.l0 (k+1) s out a (a.length:Int) (i:Int)=whole_amount_up.l0 k s ((out.set i (out.getD i 0+a.getD i 0%Q*P)).set (i+1) (a.getD i 0/Q)) a (a.length:Int) ((i+1:Nat):Int):=by
 have ga:=getD_dig X0 da i
 have hor:=up_or h ga hw
 have hwr:=step_wrap i a.length hi hl
 have hout:=fun h0=>up_out0 h h0 ga
 have c1:(i:Int)<(a.length:Int):=by omega
 have c2:(0:Int)≤(i:Int):=by omega
 have c3:(i:Int)<(out.length:Int):=by omega
 have c4:=h.s0.1
 have c5:(0:Int)≤((i+1:Nat):Int):=by omega
 have c6:((i+1:Nat):Int)<(out.length:Int):=by omega
 have c7:(0:Int)≤64-s:=by have:=h.s0;omega
 have hcount:=h.count
 have hL:=h.eqL ga
 have hR:=h.eqR' (x:=a.getD i 0)
 have hset:=set_same (out.set i (out.getD i 0+a.getD i 0%Q*P)) (i+1) (by rw[getD_set_ne _ _ _ _ Z0];exact hz)
 have ra:=rd_getD a i
 have ro:=rd_getD out i
 generalize a.getD i 0=x at *
 generalize out.getD i 0=o at *
 clear da hw ga hl hi hz
 rw[whole_amount_up.l0,if_pos c1,if_pos c2,if_pos c1,if_pos c3,if_pos c4,Option.bind_some,ra,ro,hL,hor,hwr,Int.toNat_natCast,Int.toNat_natCast]
 by_cases h0:s>0
 ·rw[if_pos h0,hcount,if_pos c7,if_pos c5,if_pos c6,hR]
 have hx0:=hout h0
 rw[if_neg h0,hx0,hset]
theorem up_l0 {s P Q:Int} (h:Sh s P Q) (a:List Int) (hl:a.length≤8388608) (da:Dig 18446744073709551616 a):∀(n i k:Nat) (out:List Int),i+n=a.length→n<k→out.length=a.length+1→Dig 18446744073709551616 out→val 18446744073709551616 out=val 18446744073709551616 (a.take i)*P→out.getD i 0<P→(∀t,i<t→out.getD t 0=0) →
  ∃r,whole_amount_up.l0 k s out a (a.length:Int) (i:Int)=some r∧r.length=a.length+1∧Dig 18446744073709551616 r∧val 18446744073709551616 r=val 18446744073709551616 a*P:=by
 intro n
 induction n with
 | zero=>
  intro i k out hi hk ho hd hv hw hz
  obtain⟨k,rfl⟩:∃j,k=j+1:=⟨k-1,Z0⟩
  refine⟨out,?_,ho,hd,by rw[hv,show i=a.length from by omega,List.take_length]⟩
  rw[whole_amount_up.l0,if_neg Z0]
 | succ n ih=>
  intro i k out hi hk ho hd hv hw hz
  obtain⟨k,rfl⟩:∃j,k=j+1:=⟨k-1,Z0⟩
  have hil:i<a.length:=by omega
  have ga:=getD_dig X0 da i
  have go:=getD_dig X0 hd i
  have hz1:=hz (i+1) Z0
  obtain⟨e1,e2,e3,e4,e5,e6⟩:=shl_parts h.P0 h.Q0 h.PQ ga
  rw[up_step k h a out i hil hl ho da ⟨go.1,hw⟩ hz1]
  have hP:=h.P_le
  have hsum:0≤out.getD i 0+a.getD i 0%Q*P∧out.getD i 0+a.getD i 0%Q*P<18446744073709551616:=by
   refine⟨Z0,?_⟩
   have h1:a.getD i 0%Q+1≤Q:=by have:=Int.emod_lt_of_pos (a.getD i 0) h.Q0;omega
   have h2:=Int.mul_le_mul_of_nonneg_right h1 (Int.le_of_lt h.P0)
   rw[Int.mul_comm Q P,h.PQ,Int.add_mul,Int.one_mul]at h2
   omega
  refine ih (i+1) k _ Z0 Z0 (by simp[ho]) ((hd.set i hsum).set (i+1) ⟨e2,Z0⟩) ?_ ?_ ?_
  ·rw[val_set_getD _ _ _ _ (by simp[ho];omega),val_set_getD _ _ _ _ Z0,getD_set_ne _ _ _ _ Z0,hz1,val_take_getD,hv,Int.pow_succ,Int.add_mul]
   have e7:a.getD i 0*18446744073709551616^i*P=(a.getD i 0*P)*18446744073709551616^i:=by rw[Int.mul_assoc,Int.mul_comm (18446744073709551616^i) P,←Int.mul_assoc]
   rw[e7,e1,Int.add_mul,Int.mul_comm (18446744073709551616^i) 18446744073709551616,←Int.mul_assoc,Int.sub_zero,show out.getD i 0+a.getD i 0%Q*P-out.getD i 0=a.getD i 0%Q*P from by omega]
   omega
  ·rw[getD_set_eq _ _ _ (by simp[ho];omega)];exact e3
  intro t ht
  rw[getD_set_ne _ _ _ _ Z0,getD_set_ne _ _ _ _ Z0]
  exact hz t Z0
theorem up_ev {s P Q:Int} (h:Sh s P Q) (a:List Int) (hl:a.length≤8388600) (da:Dig 18446744073709551616 a) :
  ∃r,Ev (fun k=>whole_amount_up.f k a s) r∧r.length=a.length+1∧Dig 18446744073709551616 r∧val 18446744073709551616 r=val 18446744073709551616 a*P:=by
 have hz:∀t,(List.replicate (a.length+1) (0:Int)).getD t 0=0:=fun t=>by
  simp[List.getD_eq_getElem?_getD,List.getElem?_replicate];split<;>rfl
 obtain⟨r,hr,hq⟩:=up_l0 h a Z0 da a.length 0 (a.length+1) (List.replicate (a.length+1) 0) Z0 Z0 Z1 (Dig.rep X0 _) (by rw[val_replicate];simp[val]) (by rw[hz];exact h.P0) (fun t _=>hz t)
 refine⟨r,?_,hq⟩
 have hw:wrap64 ((a.length:Int)+1)=((a.length+1:Nat):Int):=by rw[w64 _ Z0];omega
 refine Ev.of (fun k=>whole_amount_up.mono a s k) (k:=a.length+1) ?_
 rw[whole_amount_up.f,hw,Int.toNat_natCast,if_pos Z0,if_pos Z0]
 exact hr
theorem val_take_set (B:Int) (l:List Int) (i:Nat) (x:Int) (h:i<l.length):val B ((l.set i x).take (i+1))=val B (l.take i)+x*B^i:=by
 rw[val_take_getD,getD_set_eq _ _ _ h]
 congr 1
 rw[List.take_set_of_le (Nat.le_refl _)]
theorem mul_carry {g v c:Int} (hg:0≤g∧g<18446744073709551616) (hv:0≤v∧v<18446744073709551616) (hc:0≤c∧c<18446744073709551616) :
  ∃hi lo lo2 c2,bits_Mul64.f g v=some (hi,lo)∧bits_Add64.f lo c 0=some (lo2,c2)∧0≤lo2∧lo2<18446744073709551616∧0≤hi+c2∧hi+c2<18446744073709551616∧(hi+c2)*18446744073709551616+lo2=g*v+c:=by
 have hb:=mul_bound (M:=18446744073709551615) (x:=g) (y:=v) Z0 Z0
 refine⟨_,_,_,_,Mul64_eq g v hg hv,Add64_eq _ _ _ Z0 hc.1 Z0,?_⟩
 generalize g*v=p at *
 refine⟨Z0,Z0,Z0,Z0,Z0⟩
theorem sub_carry {u lo b:Int} (hu:0≤u∧u<18446744073709551616) (hl:0≤lo∧lo<18446744073709551616) (hb:0≤b∧b≤1) :
  ∃s b2,bits_Sub64.f u lo b=some (s,b2)∧0≤s∧s<18446744073709551616∧0≤b2∧b2≤1∧s=u-lo-b+b2*18446744073709551616:=by
 refine⟨_,_,Sub64_eq u lo b hu.1 hl hb,Z0,Z0,U6,U6,U6⟩
theorem sub_inv {N U V g u v c b c2 b2 s lo W B:Int} (hN:N=U-g*V+(c+b)*W) (h1:c2*B+lo=g*v+c) (h2:s=u-lo-b+b2*B):N+s*W=(U+u*W)-g*(V+v*W)+(c2+b2)*(W*B):=by
 have e1:g*(V+v*W)=g*V+(g*v)*W:=by rw[Int.mul_add,Int.mul_assoc]
 have e2:(c2+b2)*(W*B)=(c2*B)*W+(b2*B)*W:=by rw[Int.add_mul,Int.mul_comm W B,←Int.mul_assoc,←Int.mul_assoc]
 have e3:g*v=c2*B+lo-c:=by omega
 rw[e1,e2,hN,h2,e3]
 simp only[Int.add_mul,Int.sub_mul]
 omega
theorem subtract_step (k:Nat) (x v:List Int) (g c b hi lo lo2 c2 s b2:Int) (i n:Nat) (hn:v.length=n) (hi1:i<n) (hl:n≤8388608) (hx:i<x.length) (h1:bits_Mul64.f g (v.getD i 0)=some (hi,lo)) (h2:bits_Add64.f lo c 0=some (lo2,c2)) (h3:bits_Sub64.f (x.getD i 0) lo2 b=some (s,b2)) (h4:0≤hi+c2∧hi+c2<18446744073709551616) :
  whole_subtract.l0 (k+1) x v g c b v (n:Int) (i:Int)=whole_subtract.l0 k (x.set i s) v g (hi+c2) b2 v (n:Int) ((i+1:Nat):Int):=by
 have hwr:=step_wrap i n hi1 hl
 rw[whole_subtract.l0,if_pos Z0,if_pos Z0,if_pos Z0,rd_getD,rd_getD,h1,Option.bind_some,h2,Option.bind_some,if_pos Z0,h3,Option.bind_some,hwr,u64_in h4,Int.toNat_natCast]
theorem subtract_end (k:Nat) (x v:List Int) (g c b s b2:Int) (n:Nat) (hn:v.length=n) (hx:n<x.length) (h3:bits_Sub64.f (x.getD n 0) c b=some (s,b2)) :
  whole_subtract.l0 (k+1) x v g c b v (n:Int) (n:Int)=some ((b2==1),x.set n s):=by
 rw[whole_subtract.l0,if_neg Z0,hn,if_pos Z0,if_pos Z0,rd_getD,h3,Option.bind_some,Int.toNat_natCast]
theorem subtract_l0 (v:List Int) (g:Int) (n:Nat) (hn:v.length=n) (hl:n≤8388608) (hg:0≤g∧g<18446744073709551616) (dv:Dig 18446744073709551616 v) (u:List Int) (hu:u.length=n+1) (du:Dig 18446744073709551616 u):∀(m i k:Nat) (x:List Int) (c b:Int),i+m=n→m<k→x.length=n+1→Dig 18446744073709551616 x→(∀t,i≤t→x.getD t 0=u.getD t 0)→0≤c∧c<18446744073709551616→0≤b∧b≤1→val 18446744073709551616 (x.take i)=val 18446744073709551616 (u.take i)-g*val 18446744073709551616 (v.take i)+(c+b)*18446744073709551616^i →
  ∃(b2:Int) (r:List Int),whole_subtract.l0 k x v g c b v (n:Int) (i:Int)=some ((b2==1),r)∧0≤b2∧b2≤1∧r.length=n+1∧Dig 18446744073709551616 r∧val 18446744073709551616 r=val 18446744073709551616 u-g*val 18446744073709551616 v+b2*18446744073709551616^(n+1):=by
 intro m
 induction m with
 | zero=>
  intro i k x c b hi hk hx dx hxu hc hb hv
  obtain⟨k,rfl⟩:∃j,k=j+1:=⟨k-1,Z0⟩
  have hin:i=n:=by omega
  subst hin
  have gu:=getD_dig X0 du i
  obtain⟨s,b2,h3,s0,s1,b0,b1,hs⟩:=sub_carry (u:=x.getD i 0) (by rw[hxu i (Nat.le_refl _)];exact gu) hc hb
  refine⟨b2,x.set i s,subtract_end k x v g c b s b2 i hn Z0 h3,b0,b1,by simp[hx],dx.set i ⟨s0,s1⟩,?_⟩
  have e1:x.set i s=(x.set i s).take (i+1):=by rw[List.take_of_length_le (by simp[hx])]
  have e2:val 18446744073709551616 u=val 18446744073709551616 (u.take i)+u.getD i 0*18446744073709551616^i:=by
   rw[←val_take_getD,List.take_of_length_le Z0]
  rw[e1,val_take_set _ _ _ _ Z0,hv,hs,hxu i (Nat.le_refl _),e2,show v.take i=v from List.take_of_length_le Z0,Int.pow_succ]
  have e3:b2*(18446744073709551616^i*18446744073709551616)=b2*18446744073709551616*18446744073709551616^i:=by rw[Int.mul_comm (18446744073709551616^i),←Int.mul_assoc]
  rw[e3]
  simp only[Int.add_mul,Int.sub_mul]
  omega
 | succ m ih=>
  intro i k x c b hi hk hx dx hxu hc hb hv
  obtain⟨k,rfl⟩:∃j,k=j+1:=⟨k-1,Z0⟩
  have gu:=getD_dig X0 du i
  have gv:=getD_dig X0 dv i
  obtain⟨hi',lo,lo2,c2,h1,h2,l0,l1,p0,p1,hp⟩:=mul_carry hg gv hc
  obtain⟨s,b2,h3,s0,s1,b0,b1,hs⟩:=sub_carry (u:=x.getD i 0) (by rw[hxu i (Nat.le_refl _)];exact gu) ⟨l0,l1⟩ hb
  rw[subtract_step k x v g c b hi' lo lo2 c2 s b2 i n hn Z0 hl Z0 h1 h2 h3 ⟨p0,p1⟩]
  refine ih (i+1) k (x.set i s) (hi'+c2) b2 Z0 Z0 (by simp[hx]) (dx.set i ⟨s0,s1⟩) (fun t ht=>by rw[getD_set_ne _ _ _ _ Z0];exact hxu t Z0) ⟨p0,p1⟩ ⟨b0,b1⟩ ?_
  rw[val_take_set _ _ _ _ Z0,val_take_getD,val_take_getD,Int.pow_succ]
  rw[hxu i (Nat.le_refl _)]at hs
  exact sub_inv hv hp hs
theorem subtract_ev (u v:List Int) (g:Int) (n:Nat) (hn:v.length=n) (hl:n≤8388608) (hg:0≤g∧g<18446744073709551616) (dv:Dig 18446744073709551616 v) (hu:u.length=n+1) (du:Dig 18446744073709551616 u) :
  ∃(b2:Int) (r:List Int),Ev (fun k=>whole_subtract.f k u v g) ((b2==1),r)∧0≤b2∧b2≤1∧r.length=n+1∧Dig 18446744073709551616 r∧val 18446744073709551616 r=val 18446744073709551616 u-g*val 18446744073709551616 v+b2*18446744073709551616^(n+1):=by
 obtain⟨b2,r,hr,hq⟩:=subtract_l0 v g n hn hl hg dv u hu du n 0 (n+1) u 0 0 Z0 Z0 hu du (fun _ _=>rfl) Z0 Z0 F6
 refine⟨b2,r,Ev.of (fun k=>whole_subtract.mono u v g k) (k:=n+1) ?_,hq⟩
 rw[whole_subtract.f,hn]
 exact hr
theorem add_step' (k:Nat) (x v:List Int) (c:Int) (i n:Nat) (hn:v.length=n) (hi1:i<n) (hl:n≤8388608) (hx:i<x.length) (dx:Dig 18446744073709551616 x) (dv:Dig 18446744073709551616 v) (hc:0≤c∧c≤1) :
  whole_add.l0 (k+1) x v c v (n:Int) (i:Int)=whole_add.l0 k (x.set i ((x.getD i 0+v.getD i 0+c)%18446744073709551616)) v ((x.getD i 0+v.getD i 0+c)/18446744073709551616) v (n:Int) ((i+1:Nat):Int):=by
 have hwr:=step_wrap i n hi1 hl
 have gx:=getD_dig X0 dx i
 have gv:=getD_dig X0 dv i
 rw[whole_add.l0,if_pos Z0,if_pos Z0,if_pos Z0,if_pos Z0,rd_getD,rd_getD,Add64_eq _ _ _ gx.1 gv.1 hc,Option.bind_some,hwr,Int.toNat_natCast]
theorem add_end (k:Nat) (x v:List Int) (c:Int) (n:Nat) (hn:v.length=n) (hx:n<x.length) :
  whole_add.l0 (k+1) x v c v (n:Int) (n:Int)=some (x.set n (IntKind.u64.wrap (x.getD n 0+c))):=by
 rw[whole_add.l0,if_neg Z0,hn,if_pos Z0,if_pos Z0,rd_getD,Int.toNat_natCast]
theorem add_l0 (v:List Int) (n:Nat) (hn:v.length=n) (hl:n≤8388608) (dv:Dig 18446744073709551616 v) (u:List Int) (hu:u.length=n+1) (du:Dig 18446744073709551616 u):∀(m i k:Nat) (x:List Int) (c:Int),i+m=n→m<k→x.length=n+1→Dig 18446744073709551616 x→(∀t,i≤t→x.getD t 0=u.getD t 0)→0≤c∧c≤1→val 18446744073709551616 (x.take i)+c*18446744073709551616^i=val 18446744073709551616 (u.take i)+val 18446744073709551616 (v.take i) →
  ∃(b2:Int) (r:List Int),whole_add.l0 k x v c v (n:Int) (i:Int)=some r∧0≤b2∧r.length=n+1∧Dig 18446744073709551616 r∧val 18446744073709551616 r+b2*18446744073709551616^(n+1)=val 18446744073709551616 u+val 18446744073709551616 v:=by
 intro m
 induction m with
 | zero=>
  intro i k x c hi hk hx dx hxu hc hv
  obtain⟨k,rfl⟩:∃j,k=j+1:=⟨k-1,Z0⟩
  have hin:i=n:=by omega
  subst hin
  have gu:=getD_dig X0 du i
  rw[add_end k x v c i hn Z0,hxu i (Nat.le_refl _),IntKind.wrap_u64]
  refine⟨(u.getD i 0+c)/18446744073709551616,_,rfl,Z0,by simp[hx],dx.set i Z0,?_⟩
  have e1:∀y,x.set i y=(x.set i y).take (i+1):=fun y=>by rw[List.take_of_length_le (by simp[hx])]
  have e2:val 18446744073709551616 u=val 18446744073709551616 (u.take i)+u.getD i 0*18446744073709551616^i:=by
   rw[←val_take_getD,List.take_of_length_le Z0]
  rw[e1,val_take_set _ _ _ _ Z0,e2,Int.pow_succ]
  rw[show v.take i=v from List.take_of_length_le Z0]at hv
  have:=add_step (val 18446744073709551616 (x.take i)) c ((u.getD i 0+c)/18446744073709551616) ((u.getD i 0+c)%18446744073709551616) (u.getD i 0) 0 _ _ (18446744073709551616^i) 18446744073709551616 Z0 hv
  omega
 | succ m ih=>
  intro i k x c hi hk hx dx hxu hc hv
  obtain⟨k,rfl⟩:∃j,k=j+1:=⟨k-1,Z0⟩
  have gu:=getD_dig X0 du i
  have gv:=getD_dig X0 dv i
  rw[add_step' k x v c i n hn Z0 hl Z0 dx dv hc,hxu i (Nat.le_refl _)]
  refine ih (i+1) k _ _ Z0 Z0 (by simp[hx]) (dx.set i Z0) (fun t ht=>by rw[getD_set_ne _ _ _ _ Z0];exact hxu t Z0) Z0 ?_
  rw[val_take_set _ _ _ _ Z0,val_take_getD,val_take_getD,Int.pow_succ]
  exact add_step _ c _ _ _ _ _ _ _ _ Z0 hv
theorem add_ev' (u v:List Int) (n:Nat) (hn:v.length=n) (hl:n≤8388608) (dv:Dig 18446744073709551616 v) (hu:u.length=n+1) (du:Dig 18446744073709551616 u) :
  ∃(b2:Int) (r:List Int),Ev (fun k=>whole_add.f k u v) r∧0≤b2∧r.length=n+1∧Dig 18446744073709551616 r∧val 18446744073709551616 r+b2*18446744073709551616^(n+1)=val 18446744073709551616 u+val 18446744073709551616 v:=by
 obtain⟨b2,r,hr,hq⟩:=add_l0 v n hn hl dv u hu du n 0 (n+1) u 0 Z0 Z0 hu du (fun _ _=>rfl) Z0 F6
 refine⟨b2,r,Ev.of (fun k=>whole_add.mono u v k) (k:=n+1) ?_,hq⟩
 rw[whole_add.f,hn]
 exact hr
theorem bitLen_up {x:Nat} (h0:0<x) (h:x<2^64):1≤Lib.bitLen x∧Lib.bitLen x≤64∧x<2^Lib.bitLen x∧2^(Lib.bitLen x-1)≤x:=by
 have h1:=Lib.bitLen_half x Z0 h
 have h2:=Lib.bitLen_le x 64 Z0 h
 refine⟨Z0,h2,?_,?_⟩
 ·refine Classical.byContradiction fun hc=>?_
  have h3:=Lib.bitLen_shift (Lib.bitLen x) x Z0 h
  have h4:0<x/2^Lib.bitLen x:=Nat.div_pos Z0 (Nat.pow_pos X0)
  have h5:=Lib.bitLen_half (x/2^Lib.bitLen x) Z0 (Nat.lt_of_le_of_lt (Nat.div_le_self _ _) h)
  omega
 refine Classical.byContradiction fun hc=>?_
 have h3:=Lib.bitLen_le x (Lib.bitLen x-1) Z0 Z0
 omega
theorem clz {x:Int} (h:0<x∧x<18446744073709551616):∃s P Q,bits_LeadingZeros64.f x=some s∧Sh s P Q∧9223372036854775808≤x*P∧x*P<18446744073709551616:=by
 obtain⟨n,rfl⟩:=Int.eq_ofNat_of_zero_le (Int.le_of_lt h.1)
 have hn:0<n∧n<2^64:=by omega
 obtain⟨b1,b2,b3,b4⟩:=bitLen_up hn.1 hn.2
 refine⟨64-(Lib.bitLen n:Int),2^(64-Lib.bitLen n),2^Lib.bitLen n,?_,⟨Z0,Int.pow_pos X0,Int.pow_pos X0,?_,⟨_,rfl,Z0⟩,⟨_,rfl,Z0⟩⟩,?_,?_⟩
 ·rw[bits_LeadingZeros64.f,if_pos Z0,Int.toNat_natCast]
 ·rw[←Int.pow_add,show 64-Lib.bitLen n+Lib.bitLen n=64 from by omega];decide
 ·have e:(9223372036854775808:Int)=((2^(Lib.bitLen n-1)*2^(64-Lib.bitLen n):Nat):Int):=by
   rw[←Nat.pow_add,show Lib.bitLen n-1+(64-Lib.bitLen n)=63 from by omega];rfl
  rw[e,show((n:Int)*2^(64-Lib.bitLen n))=((n*2^(64-Lib.bitLen n):Nat):Int) from by simp]
  exact Int.ofNat_le.2 (Nat.mul_le_mul_right _ b4)
 have e:(18446744073709551616:Int)=((2^Lib.bitLen n*2^(64-Lib.bitLen n):Nat):Int):=by
  rw[←Nat.pow_add,show Lib.bitLen n+(64-Lib.bitLen n)=64 from by omega];rfl
 rw[e,show((n:Int)*2^(64-Lib.bitLen n))=((n*2^(64-Lib.bitLen n):Nat):Int) from by simp]
 exact Int.ofNat_lt.2 (Nat.mul_lt_mul_of_pos_right b3 (Nat.pow_pos X0))
theorem scale_div {X a P G r:Int} (hP:0<P) (ha:0<a) (h:X*P=G*(a*P)+r) (h0:0≤r) (h1:r<a*P):X/a=G∧X%a=r/P:=by
 have e:r=(X-G*a)*P:=by rw[Int.sub_mul,h,Int.mul_assoc];omega
 have d0:0≤X-G*a:=by
  refine Classical.byContradiction fun hc=>?_
  have:=Int.mul_le_mul_of_nonneg_right (show X-G*a ≤ -1 by omega) (Int.le_of_lt hP)
  omega
 have d1:X-G*a<a:=by
  refine Classical.byContradiction fun hc=>?_
  have:=Int.mul_le_mul_of_nonneg_right (show a≤X-G*a by omega) (Int.le_of_lt hP)
  omega
 have hq:X/a=G:=div_eq ha Z0 Z7
 refine⟨hq,?_⟩
 have h2:=Int.mul_ediv_add_emod X a
 rw[hq,Int.mul_comm a G]at h2
 rw[e,Int.mul_ediv_cancel _ (Int.ne_of_gt hP)]
 omega
theorem tdivmod {u d:Int} (hu:0≤u∧u<18446744073709551616) (hd:0<d):IntKind.u64.wrap (Int.tdiv u d)=u/d∧IntKind.u64.wrap (u-IntKind.u64.wrap (IntKind.u64.wrap (Int.tdiv u d)*d))=u%d:=by
 have h1:=Int.mul_ediv_add_emod u d
 have h2:=Int.emod_nonneg u (Int.ne_of_gt hd)
 have h3:=Int.emod_lt_of_pos u hd
 have h4:0≤u/d:=Int.ediv_nonneg hu.1 (Int.le_of_lt hd)
 have h5:u/d≤u:=by
  have:=Int.mul_le_mul_of_nonneg_right (show(1:Int)≤d by omega) h4
  rw[Int.one_mul]at this;omega
 have e:IntKind.u64.wrap (Int.tdiv u d)=u/d:=by
  rw[Int.tdiv_eq_ediv_of_nonneg hu.1,u64_in ⟨h4,Z0⟩]
 refine⟨e,?_⟩
 have h6:0≤u/d*d:=Int.mul_nonneg h4 (Int.le_of_lt hd)
 rw[Int.mul_comm]at h1
 rw[e,u64_in (x:=u/d*d) ⟨h6,Z0⟩,show u-u/d*d=u%d from by omega,u64_in ⟨h2,Z0⟩]
theorem rest_eq {y u d g:Int} (hy:0<y∧y<18446744073709551616) (hg:(u*4294967296+d)/y=g):IntKind.u64.wrap (IntKind.u64.wrap (IntKind.u64.wrap (u*4294967296)+d)-IntKind.u64.wrap (g*y))=(u*4294967296+d)%y:=by
 have h1:=Int.emod_nonneg (u*4294967296+d) (show y≠0 by omega)
 have h2:=Int.emod_lt_of_pos (u*4294967296+d) hy.1
 have h3:=Int.mul_ediv_add_emod (u*4294967296+d) y
 rw[hg,Int.mul_comm y g]at h3
 simp only[IntKind.wrap_u64]
 omega
theorem Div64_j2 {y yn1 yn0 u d1 d0 s P Q:Int} (hs:Sh s P Q) (hy:y=yn1*4294967296+yn0) (y1:2147483648≤yn1∧yn1<4294967296) (y0:0≤yn0∧yn0<4294967296) (hu:0≤u∧u<y) (h1:0≤d1∧d1<4294967296) (h0:0≤d0∧d0<4294967296) :
  Ev (fun k=>bits_Div64.j2 k y s yn1 yn0 u d1 d0 ((u*4294967296+d1)/y)) ((u*4294967296+d1)/y*4294967296+((u*4294967296+d1)%y*4294967296+d0)/y,((u*4294967296+d1)%y*4294967296+d0)%y/P):=by
 have hyM:0<y∧y<18446744073709551616:=by omega
 have hst:=Half.start hy y1 y0 hu h1
 have hr0:=Int.emod_nonneg (u*4294967296+d1) (show y≠0 by omega)
 have hr1:=Int.emod_lt_of_pos (u*4294967296+d1) hyM.1
 obtain⟨K,hK⟩:=Div64_l1 hs hyM ((u*4294967296+d1)/y) hst.quot _ _ _ (Nat.le_refl _) (Half.start hy y1 y0 ⟨hr0,hr1⟩ h0)
 obtain⟨t1,t2⟩:=tdivmod (u:=(u*4294967296+d1)%y) (d:=yn1) ⟨hr0,Z0⟩ Z0
 have he:=rest_eq hyM (rfl:(u*4294967296+d1)/y=_)
 refine⟨K+1,fun k hk=>?_⟩
 obtain⟨k,rfl⟩:∃j,k=j+1:=⟨k-1,Z0⟩
 have hk:=hK k Z0
 show bits_Div64.j2 (k+1) y s yn1 yn0 u d1 d0 ((u*4294967296+d1)/y)=_
 rw[bits_Div64.j2,if_neg (show ¬yn1=0 by omega),he,t2,t1]
 exact hk
theorem Div64_ev {a0 a1 a2:Int} (h0:0≤a0∧a0<a2) (h1:0≤a1∧a1<18446744073709551616) (h2:a2<18446744073709551616):Ev (fun k=>bits_Div64.f k a0 a1 a2) ((a0*18446744073709551616+a1)/a2,(a0*18446744073709551616+a1)%a2):=by
 by_cases hz:a0=0
 ·refine⟨0,fun k _=>?_⟩
  show bits_Div64.f k a0 a1 a2=_
  have h4:0≤a1/a2:=Int.ediv_nonneg h1.1 Z0
  have h5:a1/a2≤a1:=Int.ediv_le_self _ h1.1
  rw[bits_Div64.f,if_neg Z0,if_neg Z0,if_pos hz,Int.tdiv_eq_ediv_of_nonneg h1.1,Int.tmod_eq_emod_of_nonneg h1.1,u64_in ⟨h4,Z0⟩,hz,Int.zero_mul,Int.zero_add]
 obtain⟨s,P,Q,hc,hs,hP1,hP2⟩:=clz (x:=a2) Z0
 have hs0:=hs.s0
 have hP0:=hs.P0
 have hQ0:=hs.Q0
 have haQ:a2<Q:=by
  refine Classical.byContradiction fun hx=>?_
  have:=Int.mul_le_mul_of_nonneg_right (show Q≤a2 by omega) (Int.le_of_lt hP0)
  rw[Int.mul_comm Q P,hs.PQ]at this
  omega
 have e2:shl .u64 a2 s=a2*P:=by rw[hs.eqL Z0,Int.emod_eq_of_lt Z0 haQ]
 have e0:shl .u64 a0 s=a0*P:=by rw[hs.eqL Z0,Int.emod_eq_of_lt Z0 Z0]
 have e1:shl .u64 a1 s=a1%Q*P:=hs.eqL h1
 have e3:shr .u64 a1 (64-s)=a1/Q:=hs.eqR'
 obtain⟨p1,p2,p3,p4,p5,_⟩:=shl_parts hP0 hQ0 hs.PQ h1
 obtain⟨t,et,_⟩:=hs.P1
 have a0P:0≤a0*P:=Int.mul_nonneg h0.1 (Int.le_of_lt hP0)
 have a0P2:a0*P+P≤a2*P:=by
  have:=Int.mul_le_mul_of_nonneg_right (show a0+1≤a2 by omega) (Int.le_of_lt hP0)
  rw[Int.add_mul,Int.one_mul]at this;exact this
 have hPle:=hs.P_le
 have eor:Go.bits .or .u64 (a0*P) (a1/Q)=a0*P+a1/Q:=(or_add t ⟨a0P,Z0⟩ ⟨a0,by rw[et]⟩ (by rw[←et];exact⟨p2,p3⟩) Z0).1
 have hX:(a0*18446744073709551616+a1)*P=(a0*P+a1/Q)*18446744073709551616+a1%Q*P:=by
  rw[Int.add_mul,Int.add_mul,p1,Int.mul_assoc,Int.mul_comm 18446744073709551616 P,←Int.mul_assoc];omega
 have hw1:IntKind.u64.wrap s=s:=u64_in Z0
 have hcnt:=hs.count
 clear p1
 generalize hyy:a2*P=y at *
 generalize huu:a0*P+a1/Q=u at *
 generalize hww:a1%Q*P=w at *
 have hu:0≤u∧u<y:=by omega
 have hyn:y=y/4294967296*4294967296+y%4294967296:=by omega
 have y1:2147483648≤y/4294967296∧y/4294967296<4294967296:=by omega
 have y0:0≤y%4294967296∧y%4294967296<4294967296:=by omega
 have w1:0≤w/4294967296∧w/4294967296<4294967296:=by omega
 have w0:0≤w%4294967296∧w%4294967296<4294967296:=by omega
 obtain⟨K,hK⟩:=Div64_l0 s (w%4294967296) _ (Div64_j2 hs hyn y1 y0 hu w1 w0) _ _ _ (Nat.le_refl _) (Half.start hyn y1 y0 hu w1)
 obtain⟨t1,t2⟩:=tdivmod (u:=u) (d:=y/4294967296) Z0 Z0
 have hres:=scale_div (X:=a0*18446744073709551616+a1) (a:=a2) (P:=P) (G:=(u*4294967296+w/4294967296)/y*4294967296+((u*4294967296+w/4294967296)%y*4294967296+w%4294967296)/y) (r:=((u*4294967296+w/4294967296)%y*4294967296+w%4294967296)%y) hP0 Z0 (by
  have g1:=Int.mul_ediv_add_emod (u*4294967296+w/4294967296) y
  have g2:=Int.mul_ediv_add_emod ((u*4294967296+w/4294967296)%y*4294967296+w%4294967296) y
  rw[hX,hyy,Int.add_mul,Int.mul_comm _ y,Int.mul_comm _ y,←Int.mul_assoc]
  omega) (Int.emod_nonneg _ Z0) (by rw[hyy];exact Int.emod_lt_of_pos _ Z0)
 rw[hres.1,hres.2]
 refine⟨K,fun k hk=>?_⟩
 have hk:=hK k hk
 show bits_Div64.f k a0 a1 a2=_
 rw[bits_Div64.f,if_neg Z0,if_neg Z0,if_neg hz,hc,Option.bind_some,hw1,if_pos hs0.1,hcnt,if_pos Z0,e2,e0,e1,e3,eor,if_neg Z0,and32 y Z0,and32 w Z0,t2,t1]
 exact hk
end Go.Proofs.YtncomlmhagaajaaGreat.PurePBo
