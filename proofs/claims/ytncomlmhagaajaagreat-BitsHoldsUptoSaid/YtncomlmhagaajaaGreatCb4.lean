/- Part 4 of what the card rests on. -/
import Derived.Laws.EntriesVeiled
import Derived.Test.YtncomlmhagaajaaGreatCb3
set_option maxHeartbeats 8000000
set_option maxRecDepth 100000
set_option linter.unusedVariables false
set_option linter.unusedSimpArgs false
section
namespace Go.Proofs.YtncomlmhagaajaaGreat.PBo
open Go Go.RowKit Go.Proofs.YtncomlmhagaajaaGreatW.PrintWords Go.Proofs.YtncomlmhagaajaaGreatW.PrintLast Go.Proofs.YtncomlmhagaajaaGreatW.PrintMore Go.Proofs.YtncomlmhagaajaaGreat.Mine
theorem kgV {P:Program} {ops:Array Oper} {Q:Exit→Act→World→Prop} {oi:Oper} {N:Option Tmp} {a:Act} {w:World} {K:Act→World→Prop} {f:FuncId} {fn:Func} {t:Tmp} {cap:Array Value} {ar:Array Operand} {ts:Array TypeId} (hf:P.funcs[f]? = some fn) (args:Array Value)
  (hw:Region.wanted oi (yielded ops a.tmps)=true) (hN:oi.dst=N) (hop:oi.op=.call {callee:=.value (.tmp t),args:=ar,argTypes:=ts}) (hv:a.eval (.tmp t)=.func (.func f) #[] cap)
  (h:Calls P f (args++cap) w fun e w'=>∃v,e=.returned v∧K (a.put N v) w') (hargs:ar.map a.eval=args:=by(try simp only[List.map_toArray,List.map_cons,List.map_nil]);first|done|rfl) (hname:(fn.name == "runtime.NumGoroutine")=false:=by kernel_rfl) (hb:fn.body.isSome=true:=by kernel_rfl) :
  if Region.wanted oi (yielded ops a.tmps)=true then Oper.wp P oi a w K Q else K (a.put N undef) w:=by
 refine call_ f (args++cap) hw hN ?_ h
 have he:=enters_ hf hname hb (args++cap) w
 have hv2:Act.eval a (.tmp t)=.func (.func f) #[] cap:=hv
 unfold execOp
 simp only[hop,resolve]
 rw[hv2,hargs]
 simp[Deferred.ofValue,invoke,he]
theorem numbers_call (n:Nat) (w:World):Calls Tryz.prog 57 #[.func (.func n) #[] #[]] w fun e w'=>∃g,g=w.heap.size∧e=.returned (.func (.func 127) #[] #[.pointer (some ⟨g,0,none⟩)])∧w'.heap[g]? = some (.cells #[.func (.func n) #[] #[]] 100 (0,0))∧Below w.heap.size w w':=by
 go_enter Tryz.func57,Tryz.ntmps57
 go_wp2_with (first|((with_reducible refine gate_dst (N:=1) rfl ?_);refine kbe 1 #[.func (.func n) #[] #[]] 100 ?_;intro g1 hg W2 hx hb))
 go_ret
 subst hg
 exact⟨_,rfl,rfl,hx,hb⟩
theorem params_0 (op:Int) (v:Value) (w:World):Calls Tryz.prog 32 #[.int .i64 op,.int .i64 0,v] w fun e w'=>e=.returned (.bool true)∧w'=w:=by
 go_enter Tryz.func32,Tryz.ntmps32
 go_wp2
 go_ret
 exact⟨rfl,rfl⟩
theorem operators_1 (p v:Value) (w:World):Calls Tryz.prog 59 #[p,v] w fun e w'=>e=.returned (.int .i64 1)∧w'=w:=by
 go_enter Tryz.func59,Tryz.ntmps59
 go_wp2
 go_ret
 exact⟨rfl,rfl⟩
def bits_apply2 (k:Nat) (go:Int→List Int→Int→List Int→Option (Bool×List Int)) (wd:Int→Int) (a0:Int):List S28→Option (Int×List Int×Int)
 | [x,y]=>(bits_vectors.f k a0 [x,y]).bind fun e=>if e=0 then(if wd x.f0>4096 then none else(go x.f0 x.f1 y.f0 y.f1).bind fun n=>((bits_of.f k (wd x.f0) n.1 n.2).bind fun r=>(some (r.1,r.2,0)))) else(some (0,[],e))
 | _=>none
theorem addBox {w W W':World} {bs:List Bx} {vs os:List KV} {g:Nat} {cs:Array Value} {t:TypeId} (K:Kp w bs vs os W) (hg:W.heap.size≤g) (hx:W'.heap[g]? = some (.cells cs t (0,0))) (hb:Below W.heap.size W W'):Kp w (bs++[(g,cs,t)]) vs os W':=by
 have K':=K.up hb
 refine⟨K'.below,fun b h=>?_,?_,fun v h=>?_,fun v h=>?_,K.sep⟩
 ·rcases List.mem_append.1 h with h|h
  ·exact K'.blk b h
  obtain rfl:=List.mem_singleton.1 h
  exact⟨Nat.le_trans (below_size K.below) hg,hx⟩
 ·rw[List.map_append,List.nodup_append]
  refine⟨K.nod,B0,fun a ha b hb'=>?_⟩
  obtain rfl:b=g:=by simpa using hb'
  obtain⟨c,hc,rfl⟩:=List.mem_map.1 ha
  have:=blk_lt (K.blk c hc).2
  omega
 ·refine Kd.V_mono (Kd.V_below (Kd.V_elderB (K.val v h) g hg) hb) fun k hk=>⟨hk.1.1,fun b hbm=>?_⟩
  rcases List.mem_append.1 hbm with hm|hm
  ·exact hk.1.2 b hm
  obtain rfl:=List.mem_singleton.1 hm
  exact hk.2
 refine Kd.R_mono (Kd.R_below (Kd.R_elderB (K.own v h) g hg) hb) fun k hk b hbm=>?_
 rcases List.mem_append.1 hbm with hm|hm
 ·exact hk.1 b hm
 obtain rfl:=List.mem_singleton.1 hm
 exact hk.2
theorem vec_two {w:World} {A:Option Addr} {x y:S28} (h:Kd.C k28 w A 2 [x,y]):∃(bk o:Nat) (B1:Option Addr) (d1:Nat) (B2:Option Addr) (d2:Nat),A=some ⟨bk,o,none⟩ ∧
  (w.cell? ⟨bk,o,none⟩=some (.int .i64 x.f0)∧w.cell? ⟨bk,o+1,none⟩=some (.slice B1 x.f1.length d1)∧w.cell? ⟨bk,o+2,none⟩=some (.int .i64 y.f0)∧w.cell? ⟨bk,o+3,none⟩=some (.slice B2 y.f1.length d2)) ∧
  (x.f1.length≤d1∧Kd.C (Kd.int .u64) w B1 x.f1.length x.f1)∧(y.f1.length≤d2∧Kd.C (Kd.int .u64) w B2 y.f1.length y.f1):=by
 obtain⟨bk,o,F,rfl,hlt,hF,hc⟩:=vec_place (l:=[x,y]) h B0
 have z0:0 < [x,y].length:=Nat.le_of_ble_eq_true rfl
 have z1:1 < [x,y].length:=Nat.le_of_ble_eq_true rfl
 refine⟨bk,o,(F ⟨0,z0⟩).1,(F ⟨0,z0⟩).2,(F ⟨1,z1⟩).1,(F ⟨1,z1⟩).2,rfl,⟨?_,?_,?_,?_⟩,hF ⟨0,z0⟩,hF ⟨1,z1⟩⟩
 ·have:=hc ⟨0,z0⟩ 0 _ rfl
  simpa using this
 ·have:=hc ⟨0,z0⟩ 1 _ rfl
  simpa using this
 ·have:=hc ⟨1,z1⟩ 0 _ rfl
  simpa using this
 have:=hc ⟨1,z1⟩ 1 _ rfl
 simpa [Nat.add_assoc] using this
theorem neq_nil (W:World):(binOp .neq 62 .nilFunc .nilFunc).run Tryz.prog W=.ok (.bool false) W:=by kernel_rfl
theorem neq_fun (n:Nat) (W:World):(binOp .neq 62 (.func (.func n) #[] #[]) .nilFunc).run Tryz.prog W=.ok (.bool true) W:=by kernel_rfl
def bits_numbers1_bits_ring_2.f (k:Nat) (x0:Int) (x1:List Int) (y0:Int) (y1:List Int):Option (Bool×List Int):=(bits_u.f k x0 x1).bind fun b1=>((bits_u.f k y0 y1).bind fun b2=>((bits_ring_2.f k b1.1 b1.2 b2.1 b2.2).bind fun b3=>(some (b3.1,b3.2))))
theorem bits_numbers1_bits_ring_2.calls (k:Nat) (P:Value) (bk o c g:Nat) (x0:Int) (A1:Option Addr) (c1:Nat) (x1:List Int) (y0:Int) (A2:Option Addr) (c2:Nat) (y1:List Int) (r1:Bool) (r2:List Int) (w:World) (hg:w.cell? ⟨g,0,none⟩=some (.func (.func 130) #[] #[])) (e0:w.cell? ⟨bk,o,none⟩=some (.int .i64 x0)) (e1:w.cell? ⟨bk,o+1,none⟩=some (.slice A1 x1.length c1)) (e2:w.cell? ⟨bk,o+2,none⟩=some (.int .i64 y0)) (e3:w.cell? ⟨bk,o+3,none⟩=some (.slice A2 y1.length c2))
  (hrx:Kd.C (Kd.int .u64) w A1 x1.length x1) (hcx:x1.length≤c1) (hry:Kd.C (Kd.int .u64) w A2 y1.length y1) (hcy:y1.length≤c2) (h:bits_numbers1_bits_ring_2.f k x0 x1 y0 y1=some (r1,r2)) :
  Calls Tryz.prog 127 #[P,.slice (some ⟨bk,o,none⟩) 2 c,.pointer (some ⟨g,0,none⟩)] w fun e w'=>∃v1_:Value,e=.returned (.agg #[.bool r1,v1_])∧Kd.V (Kd.int .u64) 48 w' w.heap.size (fun k_=>w.heap.size≤k_) v1_ r2∧Below w.heap.size w w':=by
 have aa:=Tryz.underlying28
 have ab:=Tryz.underlying43
 have hw1:wrap64 (1:Int)=1:=by unfold wrap64;omega
 have K:=Kp.refl w
 replace K:=K.parV (Kd.V_mono (ok':=fun _=>True) (Kd.V_mk (e:=48) (base:=0) hcx (Kd.C_F (Kd.heap_int .u64) hrx)) (fun _ h=>trivial))
 clear hrx hcx
 replace K:=K.parV (Kd.V_mono (ok':=fun _=>True) (Kd.V_mk (e:=48) (base:=0) hcy (Kd.C_F (Kd.heap_int .u64) hry)) (fun _ h=>trivial))
 clear hry hcy
 try simp only[klv]at K
 rw[bits_numbers1_bits_ring_2.f]at h
 go_enter Tryz.func127,Tryz.ntmps127
 go_wp2_with (first|((with_reducible refine gate_dst (N:=5) rfl ?_);refine kbe 5 #[.bool false,.slice none 0 0] 43 ?_;intro g1 hgg W2 hx hb;replace K:=K.u.box hgg hx hb;clear hgg hx hb))
 replace h:=bindA h
 obtain⟨⟨z3,u3⟩,A10,h⟩:=h
 dsimp only at h
 replace h:=bindA h
 obtain⟨⟨z4,u4⟩,A11,h⟩:=h
 dsimp only at h
 replace h:=bindA h
 obtain⟨⟨z5,u5⟩,A12,h⟩:=h
 dsimp only at h
 obtain⟨Bs,Vs,Os,hBs,hVs,hOs,K⟩:=K.abs
 have HS:Aside0 (∀l m o_ W,Kp w (Bs++l) m o_ W→W.cell? ⟨g,0,none⟩=some (.func (.func 130) #[] #[])∧W.cell? ⟨bk,o,none⟩=some (.int .i64 x0)∧W.cell? ⟨bk,o+1,none⟩=some (.slice A1 x1.length c1)∧W.cell? ⟨bk,o+2,none⟩=some (.int .i64 y0)∧W.cell? ⟨bk,o+3,none⟩=some (.slice A2 y1.length c2)):=⟨fun l m o_ W K=>⟨below_cell K.below hg,below_cell K.below e0,below_cell K.below e1,below_cell K.below e2,below_cell K.below e3⟩⟩
 refine kpstart (n:=14) (ds:=[]) (S:=fun W=>W.cell? ⟨g,0,none⟩=some (.func (.func 130) #[] #[])∧W.cell? ⟨bk,o,none⟩=some (.int .i64 x0)∧W.cell? ⟨bk,o+1,none⟩=some (.slice A1 x1.length c1)∧W.cell? ⟨bk,o+2,none⟩=some (.int .i64 y0)∧W.cell? ⟨bk,o+3,none⟩=some (.slice A2 y1.length c2)) #[false,false,false,false,false,false,false,false,false,false,false,false,false,false] Z0 rfl rfl K (HS.out [] _ _) (fun W15 K hH=>?_)
 refine take_ (i:=0) (N:=some 6) (v:=?_) (a':=?_) #[true,false,false,false,false,false,false,false,false,false,false,false,false,false] rfl rfl Z0 (fun _ _ _ h=>h) (Or.inl ⟨F0,?_⟩) hH ?_ ?_
 rotate_left
 ·rintro w' ⟨s0,s1,s2,s3,s4⟩
  go_simp
  with_reducible rfl
 rotate_left
 ·simp only[Act.put,kss,i64_w,i32_w]
  rfl
 refine pure_ (i:=1) (N:=some 7) (v:=?_) (a':=?_) #[true,true,false,false,false,false,false,false,false,false,false,false,false,false] rfl rfl Z0 (fun _ _ _ h=>h) (Or.inl ⟨F0,?_⟩) ?_ ?_
 rotate_left
 ·intro w'
  go_simp
  with_reducible rfl
 rotate_left
 ·simp only[Act.put,kss,i64_w,i32_w]
  rfl
 refine pure_ (i:=2) (N:=some 8) (v:=?_) (a':=?_) #[true,true,true,false,false,false,false,false,false,false,false,false,false,false] rfl rfl Z0 (fun _ _ _ h=>h) (Or.inl ⟨F0,?_⟩) ?_ ?_
 rotate_left
 ·intro w'
  go_simp
  with_reducible rfl
 rotate_left
 ·simp only[Act.put,kss,i64_w,i32_w]
  rfl
 refine take_ (i:=3) (N:=some 9) (v:=?_) (a':=?_) #[true,true,true,true,false,false,false,false,false,false,false,false,false,false] rfl rfl Z0 (fun _ _ _ h=>h) (Or.inl ⟨F0,?_⟩) hH ?_ ?_
 rotate_left
 ·rintro w' ⟨s0,s1,s2,s3,s4⟩
  go_simp
  with_reducible rfl
 rotate_left
 ·simp only[Act.put,kss,i64_w,i32_w]
  rfl
 refine pure_ (i:=5) (N:=some 11) (v:=?_) (a':=?_) #[true,true,true,true,false,true,false,false,false,false,false,false,false,false] rfl rfl Z0 (fun _ _ _ h=>h) (Or.inl ⟨F0,?_⟩) ?_ ?_
 rotate_left
 ·intro w'
  go_simp
  with_reducible rfl
 rotate_left
 ·simp only[Act.put,kss,i64_w,i32_w]
  rfl
 refine pure_ (i:=6) (N:=some 12) (v:=?_) (a':=?_) #[true,true,true,true,false,true,true,false,false,false,false,false,false,false] rfl rfl Z0 (fun _ _ _ h=>h) (Or.inl ⟨F0,?_⟩) ?_ ?_
 rotate_left
 ·intro w'
  go_simp
  with_reducible rfl
 rotate_left
 ·simp only[Act.put,kss,i64_w,i32_w]
  rfl
 refine pure_ (i:=7) (N:=some 13) (v:=?_) (a':=?_) #[true,true,true,true,false,true,true,true,false,false,false,false,false,false] rfl rfl Z0 (fun _ _ _ h=>h) (Or.inl ⟨F0,?_⟩) ?_ ?_
 rotate_left
 ·intro w'
  go_simp
  with_reducible rfl
 rotate_left
 ·simp only[Act.put,kss,i64_w,i32_w]
  rfl
 refine pure_ (i:=8) (N:=some 14) (v:=?_) (a':=?_) #[true,true,true,true,false,true,true,true,true,false,false,false,false,false] rfl rfl Z0 (fun _ _ _ h=>h) (Or.inl ⟨F0,?_⟩) ?_ ?_
 rotate_left
 ·intro w'
  go_simp
  with_reducible rfl
 rotate_left
 ·simp only[Act.put,kss,i64_w,i32_w]
  rfl
 refine pure_ (i:=9) (N:=some 15) (v:=?_) (a':=?_) #[true,true,true,true,false,true,true,true,true,true,false,false,false,false] rfl rfl Z0 (fun _ _ _ h=>h) (Or.inl ⟨F0,?_⟩) ?_ ?_
 rotate_left
 ·intro w'
  go_simp
  with_reducible rfl
 rotate_left
 ·simp only[Act.put,kss,i64_w,i32_w]
  rfl
 refine take_ (i:=10) (N:=some 16) (v:=?_) (a':=?_) #[true,true,true,true,false,true,true,true,true,true,true,false,false,false] rfl rfl Z0 (fun _ _ _ h=>h) (Or.inl ⟨F0,?_⟩) hH ?_ ?_
 rotate_left
 ·rintro w' ⟨s0,s1,s2,s3,s4⟩
  go_simp
  with_reducible rfl
 rotate_left
 ·simp only[Act.put,kss,i64_w,i32_w]
  rfl
 refine one_ (i:=4) (N:=some 10) #[true,true,true,true,true,true,true,true,true,true,true,false,false,false] rfl rfl Z0 V0 (fun Kc hK=>?_)
 refine kgo Tryz.func43 #[.agg #[.int .i64 x0,.slice A1 x1.length c1]] F0 rfl rfl ?_
 refine(bits_u.calls _ x0 _ _ x1 z3 u3 _ (K.C 0 D2) (K.le 0 D2) A10.out).mono ?_
 rintro e W' ⟨v1,rfl,ho,hb⟩
 replace K:=K.addRI 0 0 hb ho (Nat.le_of_ble_eq_true rfl)
 clear hb ho
 refine⟨_,rfl,hK.out _ _ (HS.out _ _ _ _ K) fun hH=>?_⟩
 clear hK Kc
 refine norm_ (a':=?_) ?_ ?_
 rotate_left
 ·show Act.put _ (some 10) _=_
  simp only[Act.put,kss,i64_w,i32_w]
  rfl
 refine one_ (i:=11) (N:=some 17) #[true,true,true,true,true,true,true,true,true,true,true,true,false,false] rfl rfl Z0 V0 (fun Kc hK=>?_)
 refine kgo Tryz.func43 #[.agg #[.int .i64 y0,.slice A2 y1.length c2]] F0 rfl rfl ?_
 refine(bits_u.calls _ y0 _ _ y1 z4 u4 _ (K.C 1 D2) (K.le 1 D2) A11.out).mono ?_
 rintro e W' ⟨v2,rfl,ho,hb⟩
 replace K:=K.addRI 1 1 hb ho (Nat.le_of_ble_eq_true rfl)
 clear hb ho
 refine⟨_,rfl,hK.out _ _ (HS.out _ _ _ _ K) fun hH=>?_⟩
 clear hK Kc
 refine norm_ (a':=?_) ?_ ?_
 rotate_left
 ·show Act.put _ (some 17) _=_
  simp only[Act.put,kss,i64_w,i32_w]
  rfl
 refine one_ (i:=12) (N:=some 18) #[true,true,true,true,true,true,true,true,true,true,true,true,true,false] rfl rfl Z0 V0 (fun Kc hK=>?_)
 obtain⟨P1,d1,q1⟩:=K.slice 2 D2
 subst q1
 obtain⟨P2,d2,q2⟩:=K.slice 3 D2
 subst q2
 refine kgV (t:=6) (cap:=#[]) Tryz.func130 #[.agg #[.bool z3,.slice P1 u3.length d1],.agg #[.bool z4,.slice P2 u4.length d2]] F0 rfl rfl F0 ?_
 refine(bits_ring_2.calls _ z3 _ _ u3 z4 _ _ u4 z5 u5 _ (K.C 2 D2) (K.le 2 D2) (K.C 3 D2) (K.le 3 D2) A12.out).mono ?_
 rintro e W' ⟨v3,rfl,ho,hb⟩
 replace K:=K.addFI 2 (fun _=>False) hb ho
 clear hb ho
 refine⟨_,rfl,hK.out _ _ (HS.out _ _ _ _ K) fun hH=>?_⟩
 clear hK Kc
 refine norm_ (a':=?_) ?_ ?_
 rotate_left
 ·show Act.put _ (some 18) _=_
  simp only[Act.put,kss,i64_w,i32_w]
  rfl
 obtain⟨P3,d3,q3⟩:=K.slice 4 D2
 subst q3
 rw[hBs.out,hVs.out,hOs.out]at K
 simp only[kls,klv]at K
 clear hBs hVs hOs HS hH
 refine kone2 (i:=13) #[true,true,true,true,true,true,true,true,true,true,true,true,true,true] 0 (.bool z5) (.slice P3 u5.length d3) K rfl rfl rfl Z0 V0 F0 ?_ (fun W K=>⟨below_cell K.below hg,below_cell K.below e0,below_cell K.below e1,below_cell K.below e2,below_cell K.below e3⟩) ?_
 ·intro c0 c1_ f0 f1
  first|(go_simp;done)|(go_simp;rfl)
 clear K
 intro W9 K
 simp only[kls,klv]at K
 refine done_ Z0 ?_
 simp only[Option.some.injEq,Prod.mk.injEq]at h
 obtain⟨rfl,rfl⟩:=h
 go_wp2
 refine bodyPost_ret (results_single rfl (.cell g1 43 #[.bool z5,.slice P3 u5.length d3] (0,0) _ rfl (K.u.heap 0 rfl) Tryz.underlying43 rfl Z0 .nil)) rfl ?_
 exact⟨_,rfl,K.u.hand 4 rfl (fun _ h=>h.elim (fun h=>h.elim) id),K.u.below⟩
def bits_numbers1_bits_ring_5.f (k:Nat) (x0:Int) (x1:List Int) (y0:Int) (y1:List Int):Option (Bool×List Int):=(bits_u.f k x0 x1).bind fun b1=>((bits_u.f k y0 y1).bind fun b2=>((bits_ring_5.f k b1.1 b1.2 b2.1 b2.2).bind fun b3=>(some (b3.1,b3.2))))
theorem bits_numbers1_bits_ring_5.calls (k:Nat) (P:Value) (bk o c g:Nat) (x0:Int) (A1:Option Addr) (c1:Nat) (x1:List Int) (y0:Int) (A2:Option Addr) (c2:Nat) (y1:List Int) (r1:Bool) (r2:List Int) (w:World) (hg:w.cell? ⟨g,0,none⟩=some (.func (.func 133) #[] #[])) (e0:w.cell? ⟨bk,o,none⟩=some (.int .i64 x0)) (e1:w.cell? ⟨bk,o+1,none⟩=some (.slice A1 x1.length c1)) (e2:w.cell? ⟨bk,o+2,none⟩=some (.int .i64 y0)) (e3:w.cell? ⟨bk,o+3,none⟩=some (.slice A2 y1.length c2))
  (hrx:Kd.C (Kd.int .u64) w A1 x1.length x1) (hcx:x1.length≤c1) (hry:Kd.C (Kd.int .u64) w A2 y1.length y1) (hcy:y1.length≤c2) (h:bits_numbers1_bits_ring_5.f k x0 x1 y0 y1=some (r1,r2)) :
  Calls Tryz.prog 127 #[P,.slice (some ⟨bk,o,none⟩) 2 c,.pointer (some ⟨g,0,none⟩)] w fun e w'=>∃v1_:Value,e=.returned (.agg #[.bool r1,v1_])∧Kd.V (Kd.int .u64) 48 w' w.heap.size (fun k_=>w.heap.size≤k_) v1_ r2∧Below w.heap.size w w':=by
 have aa:=Tryz.underlying28
 have ab:=Tryz.underlying43
 have hw1:wrap64 (1:Int)=1:=by unfold wrap64;omega
 have K:=Kp.refl w
 replace K:=K.parV (Kd.V_mono (ok':=fun _=>True) (Kd.V_mk (e:=48) (base:=0) hcx (Kd.C_F (Kd.heap_int .u64) hrx)) (fun _ h=>trivial))
 clear hrx hcx
 replace K:=K.parV (Kd.V_mono (ok':=fun _=>True) (Kd.V_mk (e:=48) (base:=0) hcy (Kd.C_F (Kd.heap_int .u64) hry)) (fun _ h=>trivial))
 clear hry hcy
 try simp only[klv]at K
 rw[bits_numbers1_bits_ring_5.f]at h
 go_enter Tryz.func127,Tryz.ntmps127
 go_wp2_with (first|((with_reducible refine gate_dst (N:=5) rfl ?_);refine kbe 5 #[.bool false,.slice none 0 0] 43 ?_;intro g1 hgg W2 hx hb;replace K:=K.u.box hgg hx hb;clear hgg hx hb))
 replace h:=bindA h
 obtain⟨⟨z3,u3⟩,A10,h⟩:=h
 dsimp only at h
 replace h:=bindA h
 obtain⟨⟨z4,u4⟩,A11,h⟩:=h
 dsimp only at h
 replace h:=bindA h
 obtain⟨⟨z5,u5⟩,A12,h⟩:=h
 dsimp only at h
 obtain⟨Bs,Vs,Os,hBs,hVs,hOs,K⟩:=K.abs
 have HS:Aside0 (∀l m o_ W,Kp w (Bs++l) m o_ W→W.cell? ⟨g,0,none⟩=some (.func (.func 133) #[] #[])∧W.cell? ⟨bk,o,none⟩=some (.int .i64 x0)∧W.cell? ⟨bk,o+1,none⟩=some (.slice A1 x1.length c1)∧W.cell? ⟨bk,o+2,none⟩=some (.int .i64 y0)∧W.cell? ⟨bk,o+3,none⟩=some (.slice A2 y1.length c2)):=⟨fun l m o_ W K=>⟨below_cell K.below hg,below_cell K.below e0,below_cell K.below e1,below_cell K.below e2,below_cell K.below e3⟩⟩
 refine kpstart (n:=14) (ds:=[]) (S:=fun W=>W.cell? ⟨g,0,none⟩=some (.func (.func 133) #[] #[])∧W.cell? ⟨bk,o,none⟩=some (.int .i64 x0)∧W.cell? ⟨bk,o+1,none⟩=some (.slice A1 x1.length c1)∧W.cell? ⟨bk,o+2,none⟩=some (.int .i64 y0)∧W.cell? ⟨bk,o+3,none⟩=some (.slice A2 y1.length c2)) #[false,false,false,false,false,false,false,false,false,false,false,false,false,false] Z0 rfl rfl K (HS.out [] _ _) (fun W15 K hH=>?_)
 refine take_ (i:=0) (N:=some 6) (v:=?_) (a':=?_) #[true,false,false,false,false,false,false,false,false,false,false,false,false,false] rfl rfl Z0 (fun _ _ _ h=>h) (Or.inl ⟨F0,?_⟩) hH ?_ ?_
 rotate_left
 ·rintro w' ⟨s0,s1,s2,s3,s4⟩
  go_simp
  with_reducible rfl
 rotate_left
 ·simp only[Act.put,kss,i64_w,i32_w]
  rfl
 refine pure_ (i:=1) (N:=some 7) (v:=?_) (a':=?_) #[true,true,false,false,false,false,false,false,false,false,false,false,false,false] rfl rfl Z0 (fun _ _ _ h=>h) (Or.inl ⟨F0,?_⟩) ?_ ?_
 rotate_left
 ·intro w'
  go_simp
  with_reducible rfl
 rotate_left
 ·simp only[Act.put,kss,i64_w,i32_w]
  rfl
 refine pure_ (i:=2) (N:=some 8) (v:=?_) (a':=?_) #[true,true,true,false,false,false,false,false,false,false,false,false,false,false] rfl rfl Z0 (fun _ _ _ h=>h) (Or.inl ⟨F0,?_⟩) ?_ ?_
 rotate_left
 ·intro w'
  go_simp
  with_reducible rfl
 rotate_left
 ·simp only[Act.put,kss,i64_w,i32_w]
  rfl
 refine take_ (i:=3) (N:=some 9) (v:=?_) (a':=?_) #[true,true,true,true,false,false,false,false,false,false,false,false,false,false] rfl rfl Z0 (fun _ _ _ h=>h) (Or.inl ⟨F0,?_⟩) hH ?_ ?_
 rotate_left
 ·rintro w' ⟨s0,s1,s2,s3,s4⟩
  go_simp
  with_reducible rfl
 rotate_left
 ·simp only[Act.put,kss,i64_w,i32_w]
  rfl
 refine pure_ (i:=5) (N:=some 11) (v:=?_) (a':=?_) #[true,true,true,true,false,true,false,false,false,false,false,false,false,false] rfl rfl Z0 (fun _ _ _ h=>h) (Or.inl ⟨F0,?_⟩) ?_ ?_
 rotate_left
 ·intro w'
  go_simp
  with_reducible rfl
 rotate_left
 ·simp only[Act.put,kss,i64_w,i32_w]
  rfl
 refine pure_ (i:=6) (N:=some 12) (v:=?_) (a':=?_) #[true,true,true,true,false,true,true,false,false,false,false,false,false,false] rfl rfl Z0 (fun _ _ _ h=>h) (Or.inl ⟨F0,?_⟩) ?_ ?_
 rotate_left
 ·intro w'
  go_simp
  with_reducible rfl
 rotate_left
 ·simp only[Act.put,kss,i64_w,i32_w]
  rfl
 refine pure_ (i:=7) (N:=some 13) (v:=?_) (a':=?_) #[true,true,true,true,false,true,true,true,false,false,false,false,false,false] rfl rfl Z0 (fun _ _ _ h=>h) (Or.inl ⟨F0,?_⟩) ?_ ?_
 rotate_left
 ·intro w'
  go_simp
  with_reducible rfl
 rotate_left
 ·simp only[Act.put,kss,i64_w,i32_w]
  rfl
 refine pure_ (i:=8) (N:=some 14) (v:=?_) (a':=?_) #[true,true,true,true,false,true,true,true,true,false,false,false,false,false] rfl rfl Z0 (fun _ _ _ h=>h) (Or.inl ⟨F0,?_⟩) ?_ ?_
 rotate_left
 ·intro w'
  go_simp
  with_reducible rfl
 rotate_left
 ·simp only[Act.put,kss,i64_w,i32_w]
  rfl
 refine pure_ (i:=9) (N:=some 15) (v:=?_) (a':=?_) #[true,true,true,true,false,true,true,true,true,true,false,false,false,false] rfl rfl Z0 (fun _ _ _ h=>h) (Or.inl ⟨F0,?_⟩) ?_ ?_
 rotate_left
 ·intro w'
  go_simp
  with_reducible rfl
 rotate_left
 ·simp only[Act.put,kss,i64_w,i32_w]
  rfl
 refine take_ (i:=10) (N:=some 16) (v:=?_) (a':=?_) #[true,true,true,true,false,true,true,true,true,true,true,false,false,false] rfl rfl Z0 (fun _ _ _ h=>h) (Or.inl ⟨F0,?_⟩) hH ?_ ?_
 rotate_left
 ·rintro w' ⟨s0,s1,s2,s3,s4⟩
  go_simp
  with_reducible rfl
 rotate_left
 ·simp only[Act.put,kss,i64_w,i32_w]
  rfl
 refine one_ (i:=4) (N:=some 10) #[true,true,true,true,true,true,true,true,true,true,true,false,false,false] rfl rfl Z0 V0 (fun Kc hK=>?_)
 refine kgo Tryz.func43 #[.agg #[.int .i64 x0,.slice A1 x1.length c1]] F0 rfl rfl ?_
 refine(bits_u.calls _ x0 _ _ x1 z3 u3 _ (K.C 0 D2) (K.le 0 D2) A10.out).mono ?_
 rintro e W' ⟨v1,rfl,ho,hb⟩
 replace K:=K.addRI 0 0 hb ho (Nat.le_of_ble_eq_true rfl)
 clear hb ho
 refine⟨_,rfl,hK.out _ _ (HS.out _ _ _ _ K) fun hH=>?_⟩
 clear hK Kc
 refine norm_ (a':=?_) ?_ ?_
 rotate_left
 ·show Act.put _ (some 10) _=_
  simp only[Act.put,kss,i64_w,i32_w]
  rfl
 refine one_ (i:=11) (N:=some 17) #[true,true,true,true,true,true,true,true,true,true,true,true,false,false] rfl rfl Z0 V0 (fun Kc hK=>?_)
 refine kgo Tryz.func43 #[.agg #[.int .i64 y0,.slice A2 y1.length c2]] F0 rfl rfl ?_
 refine(bits_u.calls _ y0 _ _ y1 z4 u4 _ (K.C 1 D2) (K.le 1 D2) A11.out).mono ?_
 rintro e W' ⟨v2,rfl,ho,hb⟩
 replace K:=K.addRI 1 1 hb ho (Nat.le_of_ble_eq_true rfl)
 clear hb ho
 refine⟨_,rfl,hK.out _ _ (HS.out _ _ _ _ K) fun hH=>?_⟩
 clear hK Kc
 refine norm_ (a':=?_) ?_ ?_
 rotate_left
 ·show Act.put _ (some 17) _=_
  simp only[Act.put,kss,i64_w,i32_w]
  rfl
 refine one_ (i:=12) (N:=some 18) #[true,true,true,true,true,true,true,true,true,true,true,true,true,false] rfl rfl Z0 V0 (fun Kc hK=>?_)
 obtain⟨P1,d1,q1⟩:=K.slice 2 D2
 subst q1
 obtain⟨P2,d2,q2⟩:=K.slice 3 D2
 subst q2
 refine kgV (t:=6) (cap:=#[]) Tryz.func133 #[.agg #[.bool z3,.slice P1 u3.length d1],.agg #[.bool z4,.slice P2 u4.length d2]] F0 rfl rfl F0 ?_
 refine(bits_ring_5.calls _ z3 _ _ u3 z4 _ _ u4 z5 u5 _ (K.C 2 D2) (K.le 2 D2) (K.C 3 D2) (K.le 3 D2) A12.out).mono ?_
 rintro e W' ⟨v3,rfl,ho,hb⟩
 replace K:=K.addRI 2 2 hb ho (Nat.le_of_ble_eq_true rfl)
 clear hb ho
 refine⟨_,rfl,hK.out _ _ (HS.out _ _ _ _ K) fun hH=>?_⟩
 clear hK Kc
 refine norm_ (a':=?_) ?_ ?_
 rotate_left
 ·show Act.put _ (some 18) _=_
  simp only[Act.put,kss,i64_w,i32_w]
  rfl
 obtain⟨P3,d3,q3⟩:=K.slice 4 D2
 subst q3
 rw[hBs.out,hVs.out,hOs.out]at K
 simp only[kls,klv]at K
 clear hBs hVs hOs HS hH
 refine kone2 (i:=13) #[true,true,true,true,true,true,true,true,true,true,true,true,true,true] 0 (.bool z5) (.slice P3 u5.length d3) K rfl rfl rfl Z0 V0 F0 ?_ (fun W K=>⟨below_cell K.below hg,below_cell K.below e0,below_cell K.below e1,below_cell K.below e2,below_cell K.below e3⟩) ?_
 ·intro c0 c1_ f0 f1
  first|(go_simp;done)|(go_simp;rfl)
 clear K
 intro W9 K
 simp only[kls,klv]at K
 refine done_ Z0 ?_
 simp only[Option.some.injEq,Prod.mk.injEq]at h
 obtain⟨rfl,rfl⟩:=h
 go_wp2
 refine bodyPost_ret (results_single rfl (.cell g1 43 #[.bool z5,.slice P3 u5.length d3] (0,0) _ rfl (K.u.heap 0 rfl) Tryz.underlying43 rfl Z0 .nil)) rfl ?_
 exact⟨_,rfl,K.u.hand 4 rfl (fun _ h=>h.elim (fun h=>h.elim) id),K.u.below⟩
theorem bits_numbers1_bits_ring_2.mono (a b c d:_) (k:Nat):LeO (bits_numbers1_bits_ring_2.f k a b c d) (bits_numbers1_bits_ring_2.f (k+1) a b c d):=by
 unfold bits_numbers1_bits_ring_2.f
 repeat' first
   | (with_reducible exact bits_u.mono _ _ _)
   | (with_reducible exact bits_ring_2.mono _ _ _ _ _)
   | (with_reducible exact LeO.refl _)
   | (with_reducible refine LeO.bind ?_ (fun _=>?_))
theorem bits_numbers1_bits_ring_5.mono (a b c d:_) (k:Nat):LeO (bits_numbers1_bits_ring_5.f k a b c d) (bits_numbers1_bits_ring_5.f (k+1) a b c d):=by
 unfold bits_numbers1_bits_ring_5.f
 repeat' first
   | (with_reducible exact bits_u.mono _ _ _)
   | (with_reducible exact bits_ring_5.mono _ _ _ _ _)
   | (with_reducible exact LeO.refl _)
   | (with_reducible refine LeO.bind ?_ (fun _=>?_))
theorem ring_52 (w:World):Calls Tryz.prog 58 #[.int .i64 52] w fun e w'=>e=.returned (.func (.func 130) #[] #[])∧w'=w:=by
 go_enter Tryz.func58,Tryz.ntmps58
 go_wp2
 go_ret
 exact⟨rfl,rfl⟩
theorem operators_52 (w:World):Calls Tryz.prog 31 #[.int .i64 52] w fun e w'=>∃g2,w.heap.size≤g2∧e=.returned (.tuple #[.agg #[.int .i64 2,.int .i64 0,.nilFunc,.func (.func 127) #[] #[.pointer (some ⟨g2,0,none⟩)]],.bool true])∧w'.heap[g2]? = some (.cells #[.func (.func 130) #[] #[]] 100 (0,0))∧Below w.heap.size w w':=by
 have aa:=Tryz.underlying65
 have K:=Kp.refl w
 go_enter Tryz.func31,Tryz.ntmps31
 go_wp2_with (first
  | ((with_reducible refine gate_dst (N:=2) rfl ?_);refine kbe 2 #[.int .i64 0,.int .i64 0,.nilFunc,.nilFunc] 65 ?_;intro g1 hg W2 hx hb;replace K:=K.u.box hg hx hb;clear hg hx hb)
  | ((with_reducible refine gate_dst (N:=43) rfl ?_);refine kgl (some 43) rfl rfl Tryz.func58 #[.int .i64 52] rfl ?_;refine(ring_52 _).mono ?_;rintro e W3 ⟨rfl,rfl⟩;refine⟨_,rfl,?_⟩)
  | ((with_reducible refine gate_dst (N:=44) rfl ?_);refine kgl (some 44) rfl rfl Tryz.func57 #[.func (.func 130) #[] #[]] rfl ?_;refine(numbers_call 130 _).mono ?_;rintro e W4 ⟨g2,hg,rfl,hx,hb⟩;refine⟨_,rfl,?_⟩;replace K:=K.u.box hg hx hb;have hge:w.heap.size≤g2:=(K.blk _ (List.mem_of_getElem? (i:=1) rfl)).1;clear hg hx hb)
  | ((with_reducible refine gate_store (t:=65) (p:=2) (v:=.tmp 45) rfl ?_);refine kstN 0 0 [.int .i64 2,.int .i64 0,.nilFunc,.func (.func 127) #[] #[.pointer (some ⟨g2,0,none⟩)]] K.u rfl ?qq ?_;(case qq=>intro hc hf;have c0:=hc 0 _ rfl;have f0:=hf 0;have c1:=hc 1 _ rfl;have f1:=hf 1;have c2:=hc 2 _ rfl;have f2:=hf 2;have c3:=hc 3 _ rfl;have f3:=hf 3;clear hc hf;first|(go_simp;done)|(go_simp;rfl));clear K;intro W5 K;simp only[kls,klv,kpl,kss]at K))
 refine bodyPost_ret (results_list (rs:=[.cell 2 65,.tmp 3]) rfl B0 (.cell g1 65 #[.int .i64 2,.int .i64 0,.nilFunc,.func (.func 127) #[] #[.pointer (some ⟨g2,0,none⟩)]] (0,0) _ rfl (K.u.heap 0 rfl) Tryz.underlying65 rfl Z0 (.tmp .nil))) rfl ?_
 exact⟨g2,hge,rfl,K.u.heap 1 rfl,K.u.below⟩
theorem ring_51 (w:World):Calls Tryz.prog 58 #[.int .i64 51] w fun e w'=>e=.returned (.func (.func 133) #[] #[])∧w'=w:=by
 go_enter Tryz.func58,Tryz.ntmps58
 go_wp2
 go_ret
 exact⟨rfl,rfl⟩
theorem operators_51 (w:World):Calls Tryz.prog 31 #[.int .i64 51] w fun e w'=>∃g2,w.heap.size≤g2∧e=.returned (.tuple #[.agg #[.int .i64 2,.int .i64 0,.func (.func 59) #[] #[],.func (.func 127) #[] #[.pointer (some ⟨g2,0,none⟩)]],.bool true])∧w'.heap[g2]? = some (.cells #[.func (.func 133) #[] #[]] 100 (0,0))∧Below w.heap.size w w':=by
 have aa:=Tryz.underlying65
 have K:=Kp.refl w
 go_enter Tryz.func31,Tryz.ntmps31
 go_wp2_with (first
  | ((with_reducible refine gate_dst (N:=2) rfl ?_);refine kbe 2 #[.int .i64 0,.int .i64 0,.nilFunc,.nilFunc] 65 ?_;intro g1 hg W2 hx hb;replace K:=K.u.box hg hx hb;clear hg hx hb)
  | ((with_reducible refine gate_dst (N:=49) rfl ?_);refine kgl (some 49) rfl rfl Tryz.func58 #[.int .i64 51] rfl ?_;refine(ring_51 _).mono ?_;rintro e W3 ⟨rfl,rfl⟩;refine⟨_,rfl,?_⟩)
  | ((with_reducible refine gate_dst (N:=50) rfl ?_);refine kgl (some 50) rfl rfl Tryz.func57 #[.func (.func 133) #[] #[]] rfl ?_;refine(numbers_call 133 _).mono ?_;rintro e W4 ⟨g2,hg,rfl,hx,hb⟩;refine⟨_,rfl,?_⟩;replace K:=K.u.box hg hx hb;have hge:w.heap.size≤g2:=(K.blk _ (List.mem_of_getElem? (i:=1) rfl)).1;clear hg hx hb)
  | ((with_reducible refine gate_store (t:=65) (p:=2) (v:=.tmp 51) rfl ?_);refine kstN 0 0 [.int .i64 2,.int .i64 0,.func (.func 59) #[] #[],.func (.func 127) #[] #[.pointer (some ⟨g2,0,none⟩)]] K.u rfl ?qq ?_;(case qq=>intro hc hf;have c0:=hc 0 _ rfl;have f0:=hf 0;have c1:=hc 1 _ rfl;have f1:=hf 1;have c2:=hc 2 _ rfl;have f2:=hf 2;have c3:=hc 3 _ rfl;have f3:=hf 3;clear hc hf;first|(go_simp;done)|(go_simp;rfl));clear K;intro W5 K;simp only[kls,klv,kpl,kss]at K))
 refine bodyPost_ret (results_list (rs:=[.cell 2 65,.tmp 3]) rfl B0 (.cell g1 65 #[.int .i64 2,.int .i64 0,.func (.func 59) #[] #[],.func (.func 127) #[] #[.pointer (some ⟨g2,0,none⟩)]] (0,0) _ rfl (K.u.heap 0 rfl) Tryz.underlying65 rfl Z0 (.tmp .nil))) rfl ?_
 exact⟨g2,hge,rfl,K.u.heap 1 rfl,K.u.below⟩
theorem bits_Apply_52.calls (k:Nat) (A1:Option Addr) (c1:Nat) (l1:List Int) (A2:Option Addr) (c2:Nat) (x y:S28) (r1:Int) (r2:List Int) (r3:Int) (w:World) (hr2:Kd.C k28 w A2 2 [x,y]) (hc2:2≤c2) (h:bits_apply2 k (bits_numbers1_bits_ring_2.f k) id 52 [x,y]=some (r1,r2,r3)) :
  Calls Tryz.prog 11 #[.int .i64 52,.slice A1 l1.length c1,.slice A2 2 c2] w fun e w'=>∃v1_:Value,e=.returned (.tuple #[.agg #[.int .i64 r1,v1_],.int .i64 r3])∧Kd.R (Kd.int .u64) 48 w' w.heap.size (fun _=>True) v1_ r2∧Below w.heap.size w w':=by
 have aa:=Tryz.underlying65
 have ab:=Tryz.underlying28
 obtain⟨bk,o,B1,d1,B2,d2,rfl,hE0,hX,hY⟩:=vec_two hr2
 have HX:=Aside0.mk hX
 have HY:=Aside0.mk hY
 have HE:=Aside0.mk hE0
 clear hX hY hE0
 rw[bits_apply2]at h
 obtain⟨er,hE,h⟩:=Option.bind_eq_some_iff.1 h
 have K:=Kp.refl w
 by_cases ce:er=0
 ·rw[if_pos ce]at h
  subst ce
  split at h
  ·cases h
  rename_i hw
  obtain⟨n,hn,h⟩:=Option.bind_eq_some_iff.1 h
  obtain⟨r,hr,h⟩:=Option.bind_eq_some_iff.1 h
  obtain⟨n1,n2⟩:=n
  obtain⟨q1,q2⟩:=r
  simp only[Option.some.injEq,Prod.mk.injEq]at h
  obtain⟨rfl,rfl,rfl⟩:=h
  have HN:=Aside0.mk hn
  have HR:=Aside0.mk hr
  have HV:=Aside0.mk hE
  have HW:¬(x.f0>(4096:Int)):=hw
  clear hn hr hE hw
  have hnil:=neq_nil
  have hfun:=neq_fun
  have HWb:decide (x.f0>(4096:Int))=false:=decide_eq_false HW
  go_enter Tryz.func11,Tryz.ntmps11
  go_wp2_with (first
  | ((with_reducible refine gate_dst (N:=6) rfl ?_);refine kbe 6 #[.int .i64 0,.slice none 0 0] 28 ?_;intro g1 hg W2 hx hb;replace K:=K.u.box hg hx hb;clear hg hx hb)
  | ((with_reducible refine gate_dst (N:=14) rfl ?_);refine kgl (some 14) rfl rfl Tryz.func31 #[.int .i64 52] rfl ?_;refine(operators_52 _).mono ?_;rintro e W3 ⟨g2,hge,rfl,hx,hb⟩;refine⟨_,rfl,?_⟩;replace K:=addBox K.u hge hx hb;clear hge hx hb)
  | ((with_reducible refine gate_dst (N:=8) rfl ?_);refine kbe 8 #[.int .i64 0,.int .i64 0,.nilFunc,.nilFunc] 65 ?_;intro g8 hg W4 hx hb;replace K:=K.u.box hg hx hb;clear hg hx hb)
  | ((with_reducible refine gate_store (t:=65) (p:=8) (v:=.tmp 15) rfl ?_);refine kstN 2 0 [.int .i64 2,.int .i64 0,.nilFunc,.func (.func 127) #[] #[.pointer (some ⟨g2,0,none⟩)]] K.u rfl ?qq ?_;(case qq=>intro hc hf;have c0:=hc 0 _ rfl;have f0:=hf 0;have c1:=hc 1 _ rfl;have f1:=hf 1;have c2:=hc 2 _ rfl;have f2:=hf 2;have c3:=hc 3 _ rfl;have f3:=hf 3;clear hc hf;first|(go_simp;done)|(go_simp;rfl));clear K;intro W5 K;simp only[kls,klv,kpl,kss]at K;have v80:=K.cell 2 rfl 0 rfl;have v81:=K.cell 2 rfl 1 rfl;have v82:=K.cell 2 rfl 2 rfl;have v83:=K.cell 2 rfl 3 rfl)
  | ((with_reducible refine gate_dst (N:=30) rfl ?_);refine kgl (some 30) rfl rfl Tryz.func32 #[.int .i64 52,.int .i64 0,.slice A1 l1.length c1] rfl ?_;refine(params_0 _ _ _).mono ?_;rintro e W6 ⟨rfl,rfl⟩;refine⟨_,rfl,?_⟩)
  | ((with_reducible refine gate_dst (N:=35) rfl ?_);clear v80 v81 v82 v83;refine kgl (some 35) rfl rfl Tryz.func33 #[.int .i64 52,.slice (some ⟨bk,o,none⟩) 2 c2] rfl ?_;refine(bits_vectors.calls k 52 _ _ [x,y] 0 _ (Kd.C_below hr2 K.u.below) hc2 HV.out).mono ?_;rintro e W7 ⟨rfl,hb⟩;refine⟨_,rfl,?_⟩;replace K:=K.u.up hb;clear hb;have v80:=K.cell 2 rfl 0 rfl;have v81:=K.cell 2 rfl 1 rfl;have v82:=K.cell 2 rfl 2 rfl;have v83:=K.cell 2 rfl 3 rfl;have e0:=below_cell K.below HE.out.1))
  go_region
  replace K:=K.up (below_drew (Below.refl _ _))
  clear v80 v81 v82 v83
  clear e0
  have v83:=K.cell 2 rfl 3 rfl
  go_wp2_with (first
  | (go_at_call 127;clear v83;refine(bits_numbers1_bits_ring_2.calls k _ bk o c2 g2 x.f0 B1 d1 x.f1 y.f0 B2 d2 y.f1 n1 n2 _ (K.cell 1 rfl 0 rfl) (below_cell K.below HE.out.1) (below_cell K.below HE.out.2.1) (below_cell K.below HE.out.2.2.1) (below_cell K.below HE.out.2.2.2) (Kd.C_below HX.out.2 K.below) HX.out.1 (Kd.C_below HY.out.2 K.below) HY.out.1 HN.out).mono ?_;rintro e W9 ⟨v1,rfl,ho,hb⟩;replace K:=K.addF (fun _=>False) hb ho;clear hb ho;obtain⟨P3,d3,q3⟩:=K.slice 0 rfl;subst q3)
  | (go_at_call 34;refine(bits_of.calls k (x.f0) n1 _ _ n2 q1 q2 _ (K.C 0 rfl) (K.le 0 rfl) HR.out).mono ?_;rintro e W10 ⟨v2,rfl,ho,hb⟩;replace K:=K.addRE hb ho;clear hb ho;obtain⟨P4,d4,q4⟩:=K.slice 1 rfl;subst q4)
  | ((with_reducible refine gate_store (t:=28) (p:=6) (v:=.tmp 75) rfl ?_);refine kst2 0 (.int .i64 q1) (.slice P4 q2.length d4) K.u rfl ?qp ?_;(case qp=>intro c0 c1 f0 f1;first|(go_simp;done)|(go_simp;rfl));clear K;intro W11 K;simp only[kls,klv]at K))
  refine bodyPost_ret (results_list (rs:=[.cell 6 28,.tmp 7]) rfl B0 (.cell g1 28 #[.int .i64 q1,.slice P4 q2.length d4] (0,0) _ rfl (K.u.heap 0 rfl) Tryz.underlying28 rfl Z0 (.tmp .nil))) rfl ?_
  exact⟨_,rfl,K.u.R 0 rfl,K.u.below⟩
 rw[if_neg ce]at h
 simp only[Option.some.injEq,Prod.mk.injEq]at h
 obtain⟨rfl,rfl,rfl⟩:=h
 have ceb:(er != 0)=true:=by simpa using ce
 go_enter Tryz.func11,Tryz.ntmps11
 go_wp2_with (first
 | ((with_reducible refine gate_dst (N:=6) rfl ?_);refine kbe 6 #[.int .i64 0,.slice none 0 0] 28 ?_;intro g1 hg W2 hx hb;replace K:=K.u.box hg hx hb;clear hg hx hb)
 | ((with_reducible refine gate_dst (N:=14) rfl ?_);refine kgl (some 14) rfl rfl Tryz.func31 #[.int .i64 52] rfl ?_;refine(operators_52 _).mono ?_;rintro e W3 ⟨g2,hge,rfl,hx,hb⟩;refine⟨_,rfl,?_⟩;replace K:=addBox K.u hge hx hb;clear hge hx hb)
 | ((with_reducible refine gate_dst (N:=8) rfl ?_);refine kbe 8 #[.int .i64 0,.int .i64 0,.nilFunc,.nilFunc] 65 ?_;intro g8 hg W4 hx hb;replace K:=K.u.box hg hx hb;clear hg hx hb)
 | ((with_reducible refine gate_store (t:=65) (p:=8) (v:=.tmp 15) rfl ?_);refine kstN 2 0 [.int .i64 2,.int .i64 0,.nilFunc,.func (.func 127) #[] #[.pointer (some ⟨g2,0,none⟩)]] K.u rfl ?qq ?_;(case qq=>intro hc hf;have c0:=hc 0 _ rfl;have f0:=hf 0;have c1:=hc 1 _ rfl;have f1:=hf 1;have c2:=hc 2 _ rfl;have f2:=hf 2;have c3:=hc 3 _ rfl;have f3:=hf 3;clear hc hf;first|(go_simp;done)|(go_simp;rfl));clear K;intro W5 K;simp only[kls,klv,kpl,kss]at K;have v80:=K.cell 2 rfl 0 rfl;have v81:=K.cell 2 rfl 1 rfl;have v82:=K.cell 2 rfl 2 rfl;have v83:=K.cell 2 rfl 3 rfl)
 | ((with_reducible refine gate_dst (N:=30) rfl ?_);refine kgl (some 30) rfl rfl Tryz.func32 #[.int .i64 52,.int .i64 0,.slice A1 l1.length c1] rfl ?_;refine(params_0 _ _ _).mono ?_;rintro e W6 ⟨rfl,rfl⟩;refine⟨_,rfl,?_⟩)
 | ((with_reducible refine gate_dst (N:=35) rfl ?_);clear v80 v81 v82 v83;refine kgl (some 35) rfl rfl Tryz.func33 #[.int .i64 52,.slice (some ⟨bk,o,none⟩) 2 c2] rfl ?_;refine(bits_vectors.calls k 52 _ _ [x,y] er _ (Kd.C_below hr2 K.u.below) hc2 hE).mono ?_;rintro e W7 ⟨rfl,hb⟩;refine⟨_,rfl,?_⟩;replace K:=K.u.up hb;clear hb;have v80:=K.cell 2 rfl 0 rfl;have v81:=K.cell 2 rfl 1 rfl;have v82:=K.cell 2 rfl 2 rfl;have v83:=K.cell 2 rfl 3 rfl)
 | ((with_reducible refine gate_store (t:=28) (p:=6) (v:=.tmp 38) rfl ?_);clear v80 v81 v82 v83;refine kst2 0 (.int .i64 0) (.slice none 0 0) K.u rfl ?qp ?_;(case qp=>intro c0 c1 f0 f1;first|(go_simp;done)|(go_simp;rfl));clear K;intro W9 K;simp only[kls,klv]at K))
 refine bodyPost_ret (results_list (rs:=[.cell 6 28,.tmp 7]) rfl B0 (.cell g1 28 #[.int .i64 0,.slice none 0 0] (0,0) _ rfl (K.u.heap 0 rfl) Tryz.underlying28 rfl Z0 (.tmp .nil))) rfl ?_
 exact⟨_,rfl,Kd.R_nil _ _ _ _ _,K.u.below⟩
theorem bits_Apply_51.calls (k:Nat) (A1:Option Addr) (c1:Nat) (l1:List Int) (A2:Option Addr) (c2:Nat) (x y:S28) (r1:Int) (r2:List Int) (r3:Int) (w:World) (hr2:Kd.C k28 w A2 2 [x,y]) (hc2:2≤c2) (h:bits_apply2 k (bits_numbers1_bits_ring_5.f k) (fun _=>1) 51 [x,y]=some (r1,r2,r3)) :
  Calls Tryz.prog 11 #[.int .i64 51,.slice A1 l1.length c1,.slice A2 2 c2] w fun e w'=>∃v1_:Value,e=.returned (.tuple #[.agg #[.int .i64 r1,v1_],.int .i64 r3])∧Kd.R (Kd.int .u64) 48 w' w.heap.size (fun _=>True) v1_ r2∧Below w.heap.size w w':=by
 have aa:=Tryz.underlying65
 have ab:=Tryz.underlying28
 obtain⟨bk,o,B1,d1,B2,d2,rfl,hE0,hX,hY⟩:=vec_two hr2
 have HX:=Aside0.mk hX
 have HY:=Aside0.mk hY
 have HE:=Aside0.mk hE0
 clear hX hY hE0
 rw[bits_apply2]at h
 obtain⟨er,hE,h⟩:=Option.bind_eq_some_iff.1 h
 have K:=Kp.refl w
 by_cases ce:er=0
 ·rw[if_pos ce]at h
  subst ce
  split at h
  ·cases h
  rename_i hw
  obtain⟨n,hn,h⟩:=Option.bind_eq_some_iff.1 h
  obtain⟨r,hr,h⟩:=Option.bind_eq_some_iff.1 h
  obtain⟨n1,n2⟩:=n
  obtain⟨q1,q2⟩:=r
  simp only[Option.some.injEq,Prod.mk.injEq]at h
  obtain⟨rfl,rfl,rfl⟩:=h
  have HN:=Aside0.mk hn
  have HR:=Aside0.mk hr
  have HV:=Aside0.mk hE
  have HW:¬(1>(4096:Int)):=hw
  clear hn hr hE hw
  have hnil:=neq_nil
  have hfun:=neq_fun
  have HWb:decide (1>(4096:Int))=false:=decide_eq_false HW
  go_enter Tryz.func11,Tryz.ntmps11
  go_wp2_with (first
  | ((with_reducible refine gate_dst (N:=6) rfl ?_);refine kbe 6 #[.int .i64 0,.slice none 0 0] 28 ?_;intro g1 hg W2 hx hb;replace K:=K.u.box hg hx hb;clear hg hx hb)
  | ((with_reducible refine gate_dst (N:=14) rfl ?_);refine kgl (some 14) rfl rfl Tryz.func31 #[.int .i64 51] rfl ?_;refine(operators_51 _).mono ?_;rintro e W3 ⟨g2,hge,rfl,hx,hb⟩;refine⟨_,rfl,?_⟩;replace K:=addBox K.u hge hx hb;clear hge hx hb)
  | ((with_reducible refine gate_dst (N:=8) rfl ?_);refine kbe 8 #[.int .i64 0,.int .i64 0,.nilFunc,.nilFunc] 65 ?_;intro g8 hg W4 hx hb;replace K:=K.u.box hg hx hb;clear hg hx hb)
  | ((with_reducible refine gate_store (t:=65) (p:=8) (v:=.tmp 15) rfl ?_);refine kstN 2 0 [.int .i64 2,.int .i64 0,.func (.func 59) #[] #[],.func (.func 127) #[] #[.pointer (some ⟨g2,0,none⟩)]] K.u rfl ?qq ?_;(case qq=>intro hc hf;have c0:=hc 0 _ rfl;have f0:=hf 0;have c1:=hc 1 _ rfl;have f1:=hf 1;have c2:=hc 2 _ rfl;have f2:=hf 2;have c3:=hc 3 _ rfl;have f3:=hf 3;clear hc hf;first|(go_simp;done)|(go_simp;rfl));clear K;intro W5 K;simp only[kls,klv,kpl,kss]at K;have v80:=K.cell 2 rfl 0 rfl;have v81:=K.cell 2 rfl 1 rfl;have v82:=K.cell 2 rfl 2 rfl;have v83:=K.cell 2 rfl 3 rfl)
  | ((with_reducible refine gate_dst (N:=30) rfl ?_);refine kgl (some 30) rfl rfl Tryz.func32 #[.int .i64 51,.int .i64 0,.slice A1 l1.length c1] rfl ?_;refine(params_0 _ _ _).mono ?_;rintro e W6 ⟨rfl,rfl⟩;refine⟨_,rfl,?_⟩)
  | ((with_reducible refine gate_dst (N:=35) rfl ?_);clear v80 v81 v82 v83;refine kgl (some 35) rfl rfl Tryz.func33 #[.int .i64 51,.slice (some ⟨bk,o,none⟩) 2 c2] rfl ?_;refine(bits_vectors.calls k 51 _ _ [x,y] 0 _ (Kd.C_below hr2 K.u.below) hc2 HV.out).mono ?_;rintro e W7 ⟨rfl,hb⟩;refine⟨_,rfl,?_⟩;replace K:=K.u.up hb;clear hb;have v80:=K.cell 2 rfl 0 rfl;have v81:=K.cell 2 rfl 1 rfl;have v82:=K.cell 2 rfl 2 rfl;have v83:=K.cell 2 rfl 3 rfl;have e0:=below_cell K.below HE.out.1)
  | (go_at_call 59;refine(operators_1 _ _ _).mono ?_;rintro e W8 ⟨rfl,rfl⟩))
  go_region
  replace K:=K.up (below_drew (Below.refl _ _))
  clear v80 v81 v82 v83
  clear e0
  have v83:=K.cell 2 rfl 3 rfl
  go_wp2_with (first
  | (go_at_call 127;clear v83;refine(bits_numbers1_bits_ring_5.calls k _ bk o c2 g2 x.f0 B1 d1 x.f1 y.f0 B2 d2 y.f1 n1 n2 _ (K.cell 1 rfl 0 rfl) (below_cell K.below HE.out.1) (below_cell K.below HE.out.2.1) (below_cell K.below HE.out.2.2.1) (below_cell K.below HE.out.2.2.2) (Kd.C_below HX.out.2 K.below) HX.out.1 (Kd.C_below HY.out.2 K.below) HY.out.1 HN.out).mono ?_;rintro e W9 ⟨v1,rfl,ho,hb⟩;replace K:=K.addF (fun _=>False) hb ho;clear hb ho;obtain⟨P3,d3,q3⟩:=K.slice 0 rfl;subst q3)
  | (go_at_call 34;refine(bits_of.calls k (1) n1 _ _ n2 q1 q2 _ (K.C 0 rfl) (K.le 0 rfl) HR.out).mono ?_;rintro e W10 ⟨v2,rfl,ho,hb⟩;replace K:=K.addRE hb ho;clear hb ho;obtain⟨P4,d4,q4⟩:=K.slice 1 rfl;subst q4)
  | ((with_reducible refine gate_store (t:=28) (p:=6) (v:=.tmp 75) rfl ?_);refine kst2 0 (.int .i64 q1) (.slice P4 q2.length d4) K.u rfl ?qp ?_;(case qp=>intro c0 c1 f0 f1;first|(go_simp;done)|(go_simp;rfl));clear K;intro W11 K;simp only[kls,klv]at K))
  refine bodyPost_ret (results_list (rs:=[.cell 6 28,.tmp 7]) rfl B0 (.cell g1 28 #[.int .i64 q1,.slice P4 q2.length d4] (0,0) _ rfl (K.u.heap 0 rfl) Tryz.underlying28 rfl Z0 (.tmp .nil))) rfl ?_
  exact⟨_,rfl,K.u.R 0 rfl,K.u.below⟩
 rw[if_neg ce]at h
 simp only[Option.some.injEq,Prod.mk.injEq]at h
 obtain⟨rfl,rfl,rfl⟩:=h
 have ceb:(er != 0)=true:=by simpa using ce
 go_enter Tryz.func11,Tryz.ntmps11
 go_wp2_with (first
 | ((with_reducible refine gate_dst (N:=6) rfl ?_);refine kbe 6 #[.int .i64 0,.slice none 0 0] 28 ?_;intro g1 hg W2 hx hb;replace K:=K.u.box hg hx hb;clear hg hx hb)
 | ((with_reducible refine gate_dst (N:=14) rfl ?_);refine kgl (some 14) rfl rfl Tryz.func31 #[.int .i64 51] rfl ?_;refine(operators_51 _).mono ?_;rintro e W3 ⟨g2,hge,rfl,hx,hb⟩;refine⟨_,rfl,?_⟩;replace K:=addBox K.u hge hx hb;clear hge hx hb)
 | ((with_reducible refine gate_dst (N:=8) rfl ?_);refine kbe 8 #[.int .i64 0,.int .i64 0,.nilFunc,.nilFunc] 65 ?_;intro g8 hg W4 hx hb;replace K:=K.u.box hg hx hb;clear hg hx hb)
 | ((with_reducible refine gate_store (t:=65) (p:=8) (v:=.tmp 15) rfl ?_);refine kstN 2 0 [.int .i64 2,.int .i64 0,.func (.func 59) #[] #[],.func (.func 127) #[] #[.pointer (some ⟨g2,0,none⟩)]] K.u rfl ?qq ?_;(case qq=>intro hc hf;have c0:=hc 0 _ rfl;have f0:=hf 0;have c1:=hc 1 _ rfl;have f1:=hf 1;have c2:=hc 2 _ rfl;have f2:=hf 2;have c3:=hc 3 _ rfl;have f3:=hf 3;clear hc hf;first|(go_simp;done)|(go_simp;rfl));clear K;intro W5 K;simp only[kls,klv,kpl,kss]at K;have v80:=K.cell 2 rfl 0 rfl;have v81:=K.cell 2 rfl 1 rfl;have v82:=K.cell 2 rfl 2 rfl;have v83:=K.cell 2 rfl 3 rfl)
 | ((with_reducible refine gate_dst (N:=30) rfl ?_);refine kgl (some 30) rfl rfl Tryz.func32 #[.int .i64 51,.int .i64 0,.slice A1 l1.length c1] rfl ?_;refine(params_0 _ _ _).mono ?_;rintro e W6 ⟨rfl,rfl⟩;refine⟨_,rfl,?_⟩)
 | ((with_reducible refine gate_dst (N:=35) rfl ?_);clear v80 v81 v82 v83;refine kgl (some 35) rfl rfl Tryz.func33 #[.int .i64 51,.slice (some ⟨bk,o,none⟩) 2 c2] rfl ?_;refine(bits_vectors.calls k 51 _ _ [x,y] er _ (Kd.C_below hr2 K.u.below) hc2 hE).mono ?_;rintro e W7 ⟨rfl,hb⟩;refine⟨_,rfl,?_⟩;replace K:=K.u.up hb;clear hb;have v80:=K.cell 2 rfl 0 rfl;have v81:=K.cell 2 rfl 1 rfl;have v82:=K.cell 2 rfl 2 rfl;have v83:=K.cell 2 rfl 3 rfl)
 | ((with_reducible refine gate_store (t:=28) (p:=6) (v:=.tmp 38) rfl ?_);clear v80 v81 v82 v83;refine kst2 0 (.int .i64 0) (.slice none 0 0) K.u rfl ?qp ?_;(case qp=>intro c0 c1 f0 f1;first|(go_simp;done)|(go_simp;rfl));clear K;intro W9 K;simp only[kls,klv]at K))
 refine bodyPost_ret (results_list (rs:=[.cell 6 28,.tmp 7]) rfl B0 (.cell g1 28 #[.int .i64 0,.slice none 0 0] (0,0) _ rfl (K.u.heap 0 rfl) Tryz.underlying28 rfl Z0 (.tmp .nil))) rfl ?_
 exact⟨_,rfl,Kd.R_nil _ _ _ _ _,K.u.below⟩
def bits_Apply.f (k:Nat) (a0:Int) (_p:List Int) (l:List S28):Option (Int×List Int×Int):=
 if a0=52 then bits_apply2 k (bits_numbers1_bits_ring_2.f k) id 52 l else if a0=51 then bits_apply2 k (bits_numbers1_bits_ring_5.f k) (fun _=>1) 51 l else none
theorem bits_apply2_mono (k:Nat) (go go':Int→List Int→Int→List Int→Option (Bool×List Int)) (hgo:∀a b c d,LeO (go a b c d) (go' a b c d)) (wd:Int→Int) (a0:Int) (l:List S28):LeO (bits_apply2 k go wd a0 l) (bits_apply2 (k+1) go' wd a0 l):=by
 unfold bits_apply2
 split
 ·repeat' first
   | (with_reducible exact bits_vectors.mono _ _ _)
   | (with_reducible exact hgo _ _ _ _)
   | (with_reducible exact bits_of.mono _ _ _ _)
   | (with_reducible exact LeO.refl _)
   | (with_reducible exact LeO.none _)
   | (with_reducible refine LeO.ite ?_ ?_)
   | (with_reducible refine LeO.bind ?_ (fun _=>?_))
   | exact bits_of.mono _ _ _
 exact LeO.refl _
theorem bits_Apply.mono (a0:Int) (p:List Int) (l:List S28) (k:Nat):LeO (bits_Apply.f k a0 p l) (bits_Apply.f (k+1) a0 p l):=by
 unfold bits_Apply.f
 refine LeO.ite ?_ (LeO.ite ?_ (LeO.refl _))
 ·exact bits_apply2_mono k _ _ (fun a b c d=>bits_numbers1_bits_ring_2.mono a b c d k) _ _ _
 exact bits_apply2_mono k _ _ (fun a b c d=>bits_numbers1_bits_ring_5.mono a b c d k) _ _ _
theorem bits_Apply.calls (k:Nat) (a0:Int) (A1:Option Addr) (c1:Nat) (l1:List Int) (A2:Option Addr) (c2:Nat) (l2:List S28) (r1:Int) (r2:List Int) (r3:Int) (w:World) (hr1:Kd.C (Kd.int .i64) w A1 l1.length l1) (hc1:l1.length≤c1) (hr2:Kd.C k28 w A2 l2.length l2) (hc2:l2.length≤c2) (h:bits_Apply.f k a0 l1 l2=some (r1,r2,r3)) :
  Calls Tryz.prog 11 #[.int .i64 a0,.slice A1 l1.length c1,.slice A2 l2.length c2] w fun e w'=>∃v1_:Value,e=.returned (.tuple #[.agg #[.int .i64 r1,v1_],.int .i64 r3])∧Kd.R (Kd.int .u64) 48 w' w.heap.size (fun _=>True) v1_ r2∧Below w.heap.size w w':=by
 unfold bits_Apply.f at h
 by_cases c:a0=52
 ·rw[if_pos c]at h
  subst c
  match l2,h,hr2,hc2 with
  | [x,y],h,hr2,hc2=>exact bits_Apply_52.calls k A1 c1 l1 A2 c2 x y r1 r2 r3 w hr2 hc2 h
  | [],h,_,_=>cases h
  | [_],h,_,_=>cases h
  | _::_::_::_,h,_,_=>cases h
 rw[if_neg c]at h
 by_cases d:a0=51
 ·rw[if_pos d]at h
  subst d
  match l2,h,hr2,hc2 with
  | [x,y],h,hr2,hc2=>exact bits_Apply_51.calls k A1 c1 l1 A2 c2 x y r1 r2 r3 w hr2 hc2 h
  | [],h,_,_=>cases h
  | [_],h,_,_=>cases h
  | _::_::_::_,h,_,_=>cases h
 rw[if_neg d]at h
 cases h
end Go.Proofs.YtncomlmhagaajaaGreat.PBo
end
namespace Go.Proofs.YtncomlmhagaajaaGreat.PBo
open Go.RowKit Go.Proofs.YtncomlmhagaajaaGreatW.PrintWords Go.Proofs.YtncomlmhagaajaaGreatW.PrintLast Go.Proofs.YtncomlmhagaajaaGreatW.PrintMore
open Go.Proofs.YtncomlmhagaajaaGreat.Mine
attribute [local go_sem] max2_int min2_int max_two min_two max_three min_three max_four min_four
def tribunallaw09_alive.f (k:Nat):Option (Bool):=(tribunallaw09_b.f k 4 7).bind fun bt859=>((tribunallaw09_b.f k 4 12).bind fun bt863=>((bits_Apply.f k 52 ([]:List Int) (([(⟨bt859.1,bt859.2⟩:S28),(⟨bt863.1,bt863.2⟩:S28)]:List (S28)))).bind fun bt870=>((tribunallaw09_b.f k 4 8).bind fun bt876=>((tribunallaw09_b.f k 4 7).bind fun bt880=>((bits_Holds.f k 72 bt876.1 bt876.2 bt880.1 bt880.2).bind fun bt884=>(if bt870.2.2=0 then(if bt884.2=0 then((tribunalref09_Same.f k bt870.1 bt870.2.1 4 (([3]:List Int))).bind fun t889=>(if t889=true then(some bt884.1) else(none))) else(none)) else(none)))))))
theorem tribunallaw09_alive.mono:∀k,LeO (tribunallaw09_alive.f k) (tribunallaw09_alive.f (k+1)):=by
 intro k
 unfold tribunallaw09_alive.f
 repeat' first
   | (with_reducible exact bits_Apply.mono _ _ _ _)
   | (with_reducible exact bits_Holds.mono _ _ _ _ _ _)
   | (with_reducible exact tribunallaw09_b.mono _ _ _)
   | (with_reducible exact tribunalref09_Same.mono _ _ _ _ _)
   | (with_reducible exact LeO.refl _)
   | (with_reducible exact LeO.none _)
   | (with_reducible refine LeO.ite ?_ ?_)
   | (with_reducible refine LeO.bind ?_ (fun _=>?_))
   | exact bits_Apply.mono _ _ _ _
   | exact bits_Holds.mono _ _ _ _ _ _
   | exact tribunallaw09_b.mono _ _ _
   | exact tribunalref09_Same.mono _ _ _ _ _
   | exact LeO.none _
   | refine LeO.ite ?_ ?_
   | refine LeO.bind ?_ (fun _=>?_)
theorem tribunallaw09_alive.calls (k:Nat) (r:Bool) (w:World) (h:tribunallaw09_alive.f k=some r) :
  Calls Tryz.prog 14 #[] w fun e w'=>e=.returned (.bool r)∧Below w.heap.size w w':=by
 have bj:=Tryz.underlying28
 have HB:=Aside0.mk (Below.refl w.heap.size w)
 have H:((tribunallaw09_b.f k 4 7).bind fun aE=>((tribunallaw09_b.f k 4 12).bind fun ao=>((bits_Apply.f k 52 ([]:List Int) (([(⟨aE.1,aE.2⟩:S28),(⟨ao.1,ao.2⟩:S28)]:List (S28)))).bind fun ad=>((tribunallaw09_b.f k 4 8).bind fun ae=>((tribunallaw09_b.f k 4 7).bind fun ab=>((bits_Holds.f k 72 ae.1 ae.2 ab.1 ab.2).bind fun aa=>(if ad.2.2=0 then(if aa.2=0 then((tribunalref09_Same.f k ad.1 ad.2.1 4 (([3]:List Int))).bind fun ac=>(if ac=true then(some aa.1) else(none))) else(none)) else(none))))))))=some r:=h
 clear h
 replace H:=Option.bind_eq_some_iff.mp H
 obtain⟨⟨ah,ai⟩,A10,H⟩:=H
 replace H:((tribunallaw09_b.f k 4 12).bind fun ao=>((bits_Apply.f k 52 ([]:List Int) (([(⟨ah,ai⟩:S28),(⟨ao.1,ao.2⟩:S28)]:List (S28)))).bind fun ad=>((tribunallaw09_b.f k 4 8).bind fun ae=>((tribunallaw09_b.f k 4 7).bind fun ab=>((bits_Holds.f k 72 ae.1 ae.2 ab.1 ab.2).bind fun aa=>(if ad.2.2=0 then(if aa.2=0 then((tribunalref09_Same.f k ad.1 ad.2.1 4 (([3]:List Int))).bind fun ac=>(if ac=true then(some aa.1) else(none))) else(none)) else(none)))))))=some r:=H
 have A1:=Aside0.mk A10
 clear A10
 replace H:=Option.bind_eq_some_iff.mp H
 obtain⟨⟨al,am⟩,A20,H⟩:=H
 replace H:((bits_Apply.f k 52 ([]:List Int) (([(⟨ah,ai⟩:S28),(⟨al,am⟩:S28)]:List (S28)))).bind fun ad=>((tribunallaw09_b.f k 4 8).bind fun ae=>((tribunallaw09_b.f k 4 7).bind fun ab=>((bits_Holds.f k 72 ae.1 ae.2 ab.1 ab.2).bind fun aa=>(if ad.2.2=0 then(if aa.2=0 then((tribunalref09_Same.f k ad.1 ad.2.1 4 (([3]:List Int))).bind fun ac=>(if ac=true then(some aa.1) else(none))) else(none)) else(none))))))=some r:=H
 have A2:=Aside0.mk A20
 clear A20
 obtain⟨aD,ap⟩:∃y_:List (S28),y_=(([(⟨ah,ai⟩:S28),(⟨al,am⟩:S28)]:List (S28))):=⟨_,rfl⟩
 replace H:((bits_Apply.f k 52 ([]:List Int) aD).bind fun ad=>((tribunallaw09_b.f k 4 8).bind fun ae=>((tribunallaw09_b.f k 4 7).bind fun ab=>((bits_Holds.f k 72 ae.1 ae.2 ab.1 ab.2).bind fun aa=>(if ad.2.2=0 then(if aa.2=0 then((tribunalref09_Same.f k ad.1 ad.2.1 4 (([3]:List Int))).bind fun ac=>(if ac=true then(some aa.1) else(none))) else(none)) else(none))))))=some r:=by first|(rw[ap];with_reducible exact H)|(have H2_:=(Option.bind_some _ _).symm.trans H;rw[ap];with_reducible exact H2_)|(have H2_:=(Option.bind_some _ _).symm.trans H;with_reducible exact H2_)|with_reducible exact H|(rw[ap];exact H)|exact H
 have aF:=Aside0.mk ap
 clear ap
 replace H:=Option.bind_eq_some_iff.mp H
 obtain⟨⟨t870,t871,an⟩,A30,H⟩:=H
 replace H:((tribunallaw09_b.f k 4 8).bind fun ae=>((tribunallaw09_b.f k 4 7).bind fun ab=>((bits_Holds.f k 72 ae.1 ae.2 ab.1 ab.2).bind fun aa=>(if an=0 then(if aa.2=0 then((tribunalref09_Same.f k t870 t871 4 (([3]:List Int))).bind fun ac=>(if ac=true then(some aa.1) else(none))) else(none)) else(none)))))=some r:=H
 have A3:=Aside0.mk A30
 clear A30
 replace H:=Option.bind_eq_some_iff.mp H
 obtain⟨⟨aw,au⟩,A40,H⟩:=H
 replace H:((tribunallaw09_b.f k 4 7).bind fun ab=>((bits_Holds.f k 72 aw au ab.1 ab.2).bind fun aa=>(if an=0 then(if aa.2=0 then((tribunalref09_Same.f k t870 t871 4 (([3]:List Int))).bind fun ac=>(if ac=true then(some aa.1) else(none))) else(none)) else(none))))=some r:=H
 have A4:=Aside0.mk A40
 clear A40
 replace H:=Option.bind_eq_some_iff.mp H
 obtain⟨⟨aB,ax⟩,A50,H⟩:=H
 replace H:((bits_Holds.f k 72 aw au aB ax).bind fun aa=>(if an=0 then(if aa.2=0 then((tribunalref09_Same.f k t870 t871 4 (([3]:List Int))).bind fun ac=>(if ac=true then(some aa.1) else(none))) else(none)) else(none)))=some r:=H
 have A5:=Aside0.mk A50
 clear A50
 replace H:=Option.bind_eq_some_iff.mp H
 obtain⟨⟨ay,az⟩,A60,H⟩:=H
 replace H:(if an=0 then(if az=0 then((tribunalref09_Same.f k t870 t871 4 (([3]:List Int))).bind fun ac=>(if ac=true then(some ay) else(none))) else(none)) else(none))=some r:=H
 have A6:=Aside0.mk A60
 clear A60
 by_cases c7:an=0
 ·rw[if_pos c7]at H
  have bk:(an==0)=true:=beq_iff_eq.mpr c7
  have bl:(an != 0)=false:=bne_eq_false_iff_eq.mpr c7
  clear c7
  by_cases c8:az=0
  ·rw[if_pos c8]at H
   have bn:(az==0)=true:=beq_iff_eq.mpr c8
   have bo:(az != 0)=false:=bne_eq_false_iff_eq.mpr c8
   clear c8
   obtain⟨aH,aq⟩:∃y_:List Int,y_=(([3]:List Int)):=⟨_,rfl⟩
   replace H:((tribunalref09_Same.f k t870 t871 4 aH).bind fun ac=>(if ac=true then(some ay) else(none)))=some r:=by first|(rw[aq];with_reducible exact H)|(have H2_:=(Option.bind_some _ _).symm.trans H;rw[aq];with_reducible exact H2_)|(have H2_:=(Option.bind_some _ _).symm.trans H;with_reducible exact H2_)|with_reducible exact H|(rw[aq];exact H)|exact H
   have aG:=Aside0.mk aq
   clear aq
   replace H:=Option.bind_eq_some_iff.mp H
   obtain⟨ac,A90,H⟩:=H
   replace H:(if ac=true then(some ay) else(none))=some r:=H
   have A9:=Aside0.mk A90
   clear A90
   by_cases c10:ac=true
   ·subst c10
    have H1:(some ay)=some r:=by rw[if_pos rfl]at H;exact H
    clear H
    have H:=H1
    clear H1
    obtain rfl:=Option.some.inj H
    go_enter Tryz.func14,Tryz.ntmps14
    go_wp2_with (first|((with_reducible refine gate_callee (f:=20) rfl ?_);refine kgl (some 6) rfl rfl Tryz.func20 #[.int .i64 4,.int .u64 7] rfl ?_;(with_reducible refine(tribunallaw09_b.calls k 4 7 ah ai _ A1.out).mono ?_);rintro e w11 ⟨bp,rfl,ho0,hb⟩;refine⟨_,rfl,?_⟩;have aj:=Aside0.mk (Kd.R_lower ho0 (below_size (khu HB.out)));replace HB:=kbs HB hb;(try clear hb);(try clear hb2);(try clear hk);(try clear hi);(try clear ho0))|((with_reducible refine gate_callee (f:=20) rfl ?_);refine kgl (some 7) rfl rfl Tryz.func20 #[.int .i64 4,.int .u64 12] rfl ?_;(with_reducible refine(tribunallaw09_b.calls k 4 12 al am _ A2.out).mono ?_);rintro e w12 ⟨bq,rfl,ho0,hb⟩;refine⟨_,rfl,?_⟩;have av:=Aside0.mk (Kd.R_lower (Kd.R_new' ho0 (Kd.R_lt (kru aj.out))) (below_size (khu HB.out)));replace aj:=Aside0.mk (Kd.R_elder' (kru aj.out) (Kd.R_base ho0) hb);replace HB:=kbs HB hb;(try clear hb);(try clear hb2);(try clear hk);(try clear hi);(try clear ho0);obtain⟨aI,aJ,aQ⟩:=Kd.R_slice aj.out;subst aQ;obtain⟨aK,aL,aR⟩:=Kd.R_slice av.out;subst aR)|(refine gd 8 rfl ?_;(try(refine gate_guard F0 ?_;dsimp only));refine Kd.N_lit k28 _ 28 ?hg (N':=8) ?hd (xs:=([(⟨ah,ai⟩:S28),(⟨al,am⟩:S28)]:List (S28))) (inner:=[.int .i64 ah,.slice aI ai.length aJ,.int .i64 al,.slice aK am.length aL]) (ok:=(fun _=>True)) (okp:=(fun _=>True)) ?hr ?hp (fun _ hk=>hk) ((show ∀k_,w12.heap.size≤k_→(fun _=>True) k_ from fun k_ hk=>trivial) _ (Nat.le_refl _)) (Below.refl _ _) (Nat.le_refl _) B0 ?_;(case hd=>rfl);(case hg=>rfl);(case hr=>first|(go_simp;done)|(go_simp;rfl));(case hp=>exact(Reps.c2 (show Kd.FK k28 _ _ (⟨ah,ai⟩:S28) [.int .i64 ah,.slice aI ai.length aJ] from(k28_mkF _ _ (⟨ah,ai⟩:S28) (Kd.R_reads' (Kd.R_mono (ok':=(fun _=>True)) (aj.out) (fun k_ hk=>trivial))).2.1 (Kd.R_F (Kd.R_mono (ok':=(fun _=>True)) (aj.out) (fun k_ hk=>trivial))))) (Reps.c2 (show Kd.FK k28 _ _ (⟨al,am⟩:S28) [.int .i64 al,.slice aK am.length aL] from(k28_mkF _ _ (⟨al,am⟩:S28) (Kd.R_reads' (Kd.R_mono (ok':=(fun _=>True)) (av.out) (fun k_ hk=>trivial))).2.1 (Kd.R_F (Kd.R_mono (ok':=(fun _=>True)) (av.out) (fun k_ hk=>trivial))))) (Reps.none _ _))));intro br w15 aA hb hg_ hnew_;clear hg_ hnew_;(first|rw[←aF.out]at aA|(simp only[Int.reduceToNat]at aA;rw[←aF.out]at aA));have HO869:=Aside0.mk (Kd.N_lower aA (below_size (khu HB.out)));replace HB:=kbs HB hb;clear aj av;clear hb aA;obtain⟨aS,aT,aU⟩:=Kd.N_slice HO869.out;subst aU)|((with_reducible refine gate_callee (f:=11) rfl ?_);refine kgl (some 9) rfl rfl Tryz.func11 #[.int .i64 52,.slice none 0 0,.slice aS aD.length aT] rfl ?_;(refine(bits_Apply.calls k 52 _ _ ([]:List Int) _ _ aD t870 t871 an _ ?side1 ?side2 ?side3 ?side4 A3.out).mono ?_);(case side1=>exact Kd.C_nil _ _);(case side2=>exact Nat.le_refl _);(case side3=>repeat (first|exact(Kd.N_reads' HO869.out).2.2|(with_reducible refine Kd.C_alloc ?_ _)|(with_reducible refine Kd.C_drewN ?_ _)|(with_reducible refine Kd.C_drew ?_)));(case side4=>exact(Kd.N_reads' HO869.out).2.1);rintro e w18 ⟨bu,rfl,ho0,hb⟩;refine⟨_,rfl,?_⟩;replace HO869:=Aside0.mk (Kd.N_elder' D1 (Kd.R_base ho0) hb);have HO873:=Aside0.mk (Kd.R_lower (Kd.R_mono (ok':=fun k_=>True) ho0 (fun _ hk_=>trivial)) (below_size (khu HB.out)));replace HB:=kbs HB hb;(try clear hb);(try clear hb2);(try clear hk);(try clear hi);(try clear ho0))|(refine gd 1 rfl ?_;(try(refine gate_guard F0 ?_;dsimp only));refine kbe 1 #[.int .i64 0,.slice none 0 0] 28 ?_;intro gb875 hg w19 hbox hb;replace HO869:=Aside0.mk (Kd.N_below (Kd.N_elderB D1 gb875 (Nat.le_of_eq hg.symm)) hb);replace HO873:=krb HO873 hb;have BK875:=Aside0.mk (hbox);have bi:=kbz hg HB;have aC:=kbz hg HB;replace HB:=kbs HB hb;clear hb hbox hg;have aZ:w19.cell? ⟨gb875,0,none⟩=some (.int .i64 0):=(blk_cell BK875.out 0).trans rfl;have bb:w19.cell? ⟨gb875,1,none⟩=some (.slice none 0 0):=(blk_cell BK875.out 1).trans rfl;have bc:=blk_frozen BK875.out 0;have bd:=blk_frozen BK875.out 1;obtain⟨Ao21,co21,aV⟩:=Kd.R_slice HO873.out;subst aV)|((with_reducible refine gate_callee (f:=20) rfl ?_);refine kgl (some 13) rfl rfl Tryz.func20 #[.int .i64 4,.int .u64 8] rfl ?_;(with_reducible refine(tribunallaw09_b.calls k 4 8 aw au _ A4.out).mono ?_);rintro e w22 ⟨bv,rfl,ho0,hb⟩;refine⟨_,rfl,?_⟩;replace HO869:=Aside0.mk (Kd.N_elder' (by(with_reducible repeat (first|apply Kd.N_alloc|apply Kd.N_drewN|apply Kd.N_drew));exact(Kd.N_mono (Kd.N_far (p:=⟨gb875,1,none⟩) (Kd.N_far (p:=⟨gb875,0,none⟩) (Kd.N_mono HO869.out (fun k_ hk=>(⟨hk,hk.2⟩:_∧k_≠gb875))) (fun _ hk=>hk.2) (.int .i64 t870)) (fun _ hk=>hk.2) (.slice Ao21 t871.length co21)) (fun _ h_=>h_.1))) (Kd.R_base ho0) hb);have af:=Aside0.mk (Kd.R_lower (Kd.R_new' ho0 (Kd.R_lt X3)) (below_size (by repeat (first|(with_reducible first|exact HB.out|apply below_alloc|apply pw_below_drewN|apply below_drew1|refine below_set ?_ aC.out)|exact HB.out))));replace HO873:=Aside0.mk (Kd.R_elder' X3 (Kd.R_base ho0) hb);replace BK875:=Aside0.mk (blk_below (g:=gb875) (o:=.cells #[.int .i64 t870,.slice Ao21 t871.length co21] 28 (0,0)) (kpu #[.int .i64 t870,.slice none 0 0] 1 (kpu #[.int .i64 0,.slice none 0 0] 0 (kbu BK875.out))) hb);replace HB:=Aside0.mk (below_step (by repeat (first|(with_reducible first|exact HB.out|apply below_alloc|apply pw_below_drewN|apply below_drew1|refine below_set ?_ aC.out)|exact HB.out)) hb);(try clear hb);(try clear hb2);(try clear hk);(try clear hi);(try clear ho0))|((with_reducible refine gate_callee (f:=20) rfl ?_);refine kgl (some 14) rfl rfl Tryz.func20 #[.int .i64 4,.int .u64 7] rfl ?_;(with_reducible refine(tribunallaw09_b.calls k 4 7 aB ax _ A5.out).mono ?_);rintro e w23 ⟨bw,rfl,ho0,hb⟩;refine⟨_,rfl,?_⟩;replace HO869:=Aside0.mk (Kd.N_elder' D1 (Kd.R_base ho0) hb);have ag:=Aside0.mk (Kd.R_lower (Kd.R_new' (Kd.R_new' ho0 (Kd.R_lt (kru HO873.out))) (Kd.R_lt (kru af.out))) (below_size (khu HB.out)));replace HO873:=Aside0.mk (Kd.R_elder' (kru HO873.out) (Kd.R_base ho0) hb);replace af:=Aside0.mk (Kd.R_elder' (kru af.out) (Kd.R_base ho0) hb);replace BK875:=kbb BK875 hb;replace HB:=kbs HB hb;(try clear hb);(try clear hb2);(try clear hk);(try clear hi);(try clear ho0);obtain⟨aM,aN,aW⟩:=Kd.R_slice af.out;subst aW;obtain⟨aO,aP,aX⟩:=Kd.R_slice ag.out;subst aX)|((with_reducible refine gate_callee (f:=15) rfl ?_);refine kgl (some 15) rfl rfl Tryz.func15 #[.int .i64 72,.agg #[.int .i64 aw,.slice aM au.length aN],.agg #[.int .i64 aB,.slice aO ax.length aP]] rfl ?_;(with_reducible refine(bits_Holds.calls k 72 aw (fun k_=>some k_=(.slice aM au.length aN:Value).ownBlock) _ _ au aB (fun k_=>some k_=(.slice aO ax.length aP:Value).ownBlock) _ _ ax ay az _ ?side1 ?side2 A6.out).mono ?_);(case side1=>exact Kd.R_V (Kd.R_tight rfl (Kd.R_types (Kd.R_apart' (af.out) (Kd.N_typed HO869.out) V0) BK875.out V0)));(case side2=>exact Kd.R_V (Kd.R_tight rfl (Kd.R_types (Kd.R_apart' (ag.out) (Kd.N_typed HO869.out) V0) BK875.out V0)));rintro e w26 ⟨rfl,hb⟩;refine⟨_,rfl,?_⟩;replace HO869:=Aside0.mk (Kd.N_below D1 hb);replace HO873:=krb HO873 hb;replace af:=krb af hb;replace ag:=krb ag hb;replace BK875:=kbb BK875 hb;replace HB:=kbs HB hb;(try clear hb);(try clear hb2);(try clear hk);(try clear hi);have be:w26.cell? ⟨gb875,0,none⟩=some (.int .i64 t870):=(blk_cell BK875.out 0).trans rfl;have bf:w26.cell? ⟨gb875,1,none⟩=some (.slice Ao21 t871.length co21):=(blk_cell BK875.out 1).trans rfl;have bg:=blk_frozen BK875.out 0;have bh:=blk_frozen BK875.out 1)|(refine gd 26 rfl ?_;(try(refine gate_guard F0 ?_;dsimp only));refine Kd.R_lit (Kd.int .u64) _ 48 ?hg (N:=26) ?hd (xs:=([3]:List Int)) (inner:=[.int .u64 3]) (ok:=fun _=>True) (okp:=fun _=>True) ?hr ?hp (fun _ hk=>hk) trivial (Below.refl _ _) (Nat.le_refl _) B0 ?_;(case hd=>rfl);(case hg=>rfl);(case hr=>first|(go_simp;done)|(go_simp;rfl));(case hp=>exact(Reps.one (show Kd.M (Kd.int .u64) _ _ _ 3 [.int .u64 3] from rfl) (Reps.none _ _)));intro bx w28 ak hb hg_ hnew_;clear hg_ hnew_;(first|rw[←aG.out]at ak|(simp only[Int.reduceToNat]at ak;rw[←aG.out]at ak));replace HO869:=Aside0.mk (Kd.N_elder' D1 (Kd.R_base ak) hb);have ar:=Aside0.mk (Kd.R_lower (Kd.R_new' (Kd.R_new' (Kd.R_new' ak (Kd.R_lt (kru HO873.out))) (Kd.R_lt (kru af.out))) (Kd.R_lt (kru ag.out))) (below_size (khu HB.out)));replace HO873:=Aside0.mk (Kd.R_elder' (kru HO873.out) (Kd.R_base ak) hb);replace af:=Aside0.mk (Kd.R_elder' (kru af.out) (Kd.R_base ak) hb);replace ag:=Aside0.mk (Kd.R_elder' (kru ag.out) (Kd.R_base ak) hb);replace BK875:=kbb BK875 hb;replace HB:=kbs HB hb;clear hb ak;obtain⟨bz,bA,aY⟩:=Kd.R_slice ar.out;subst aY)|(go_at_call 13;(with_reducible refine(tribunalref09_Same.calls k t870 _ _ t871 4 _ _ aH true _ ?side1 ?side2 ?side3 ?side4 A9.out).mono ?_);(case side1=>repeat (first|exact(Kd.R_reads' HO873.out).2.2|(with_reducible refine Kd.C_alloc ?_ _)|(with_reducible refine Kd.C_drewN ?_ _)|(with_reducible refine Kd.C_drew ?_)));(case side2=>exact(Kd.R_reads' HO873.out).2.1);(case side3=>repeat (first|exact(Kd.R_reads' ar.out).2.2|(with_reducible refine Kd.C_alloc ?_ _)|(with_reducible refine Kd.C_drewN ?_ _)|(with_reducible refine Kd.C_drew ?_)));(case side4=>exact(Kd.R_reads' ar.out).2.1);rintro e w31 ⟨rfl,hb⟩;replace HO869:=Aside0.mk (Kd.N_below D1 hb);replace HO873:=krb HO873 hb;replace af:=krb af hb;replace ag:=krb ag hb;replace ar:=krb ar hb;replace BK875:=kbb BK875 hb;replace HB:=kbs HB hb;(try clear hb);(try clear hb2);(try clear hk);(try clear hi)))
    go_ret
    exact⟨J0,by repeat (first|(with_reducible first|exact HB.out|apply below_alloc|apply pw_below_drewN|apply below_drew1|refine below_set ?_ aC.out)|exact HB.out)⟩
   replace c10:=Bool.eq_false_iff.mpr c10
   subst c10
   have H1:(none)=some r:=by rw[if_neg (show ¬(false=true) by decide)]at H;exact H
   clear H
   have H:=H1
   clear H1
   exact absurd H B0
  rw[if_neg c8]at H
  exact absurd H B0
 rw[if_neg c7]at H
 exact absurd H B0
mutual
def tribunalref09_Right.j0:Nat→Bool→Int→List Int→Option (Bool)
 | 0,_,_,_=>none
 | k+1,x11,x891000,x891001=>if x11=true then(some false) else(tribunalref09_Right.l0 k x891000 x891000 x891001)
def tribunalref09_Right.l0:Nat→Int→Int→List Int→Option (Bool)
 | 0,_,_,_=>none
 | k+1,x3,x891000,x891001=>if x3<(wrap64 (64*(x891001.length:Int))) then(if 0≤(wrap64 (Int.tdiv x3 64)) then(if(wrap64 (Int.tdiv x3 64))<(x891001.length:Int) then(if 0≤(IntKind.u64.wrap (Int.tmod x3 64)) then(if(Go.bits .and .u64 (shr .u64 (rd x891001 (wrap64 (Int.tdiv x3 64))) (IntKind.u64.wrap (Int.tmod x3 64))) 1)=1 then(some false) else(tribunalref09_Right.l0 k (wrap64 (x3+1)) x891000 x891001)) else(none)) else(none)) else(none)) else(some true)
end
def tribunalref09_Right.f (k:Nat) (a0_0:Int) (l0_1:List Int):Option (Bool):=if a0_0<1 then(tribunalref09_Right.j0 k true a0_0 l0_1) else(tribunalref09_Right.j0 k (decide (a0_0>4096)) a0_0 l0_1)
theorem tribunalref09_Right.calls (k:Nat) (ac:Int) (ah:Option Addr) (ai:Nat) (ab:List Int) (r:Bool) (w:World) (aD:Kd.C (Kd.int .u64) w ah ab.length ab) (aE:ab.length≤ai) (h:tribunalref09_Right.f k ac ab=some r) :
  Calls Tryz.prog 30 #[.agg #[.int .i64 ac,.slice ah ab.length ai]] w fun e w'=>e=.returned (.bool r)∧Below w.heap.size w w':=by
 have bj:=Tryz.underlying28
 have aF:=Aside0.mk aD
 have bd:=Aside0.mk aE
 clear aD aE
 have HB:=Aside0.mk (Below.refl w.heap.size w)
 have H:(if ac<1 then(tribunalref09_Right.j0 k true ac ab) else(tribunalref09_Right.j0 k (decide (ac>4096)) ac ab))=some r:=h
 clear h
 have HC2:=Aside0.mk H
 clear H
 go_enter Tryz.func30,Tryz.ntmps30
 go_upto_region 1 with(first|(refine gd 1 rfl ?_;refine kbe 1 #[.int .i64 ac,.slice ah ab.length ai] 28 ?_;intro ae hg w3 hbox hb;have aa:=Aside0.mk (hbox);have be:=kbz hg HB;have aj:=kbz hg HB;replace HB:=kbs HB hb;clear hb hbox hg))
 (try simp only[Act.put,kss])
 go_cut [11] (fun v11 wc=>∃(kq:Nat) (ap:Bool),v11=.bool ap∧Aside0 (tribunalref09_Right.j0 kq ap ac ab=some r)∧Aside0 (kq≤k)∧Aside0 (wc.heap[ae]? = some (.cells #[.int .i64 ac,(.slice ah ab.length ai)] 28 (0,0)))∧Aside0 (Below w.heap.size w wc))
 case first=>
  have H:=HC2.out
  clear HC2
  by_cases c4:ac<1
  ·rw[if_pos c4]at H
   have am:decide (ac<1)=true:=decide_eq_true c4
   clear c4
   (first|rw[am]|rw[aB]|(simp only[i64_w,i32_w];rw[am])|skip)
   have H':=Aside0.mk H
   clear H
   have ar:w3.cell? ⟨ae,0,none⟩=some (.int .i64 ac):=(blk_cell aa.out 0).trans rfl
   have au:w3.cell? ⟨ae,1,none⟩=some (.slice ah ab.length ai):=(blk_cell aa.out 1).trans rfl
   have av:=blk_frozen aa.out 0
   have aw:=blk_frozen aa.out 1
   go_wp2
   go_meet
   case rel=>exact⟨_,(true),X0,H',⟨F2⟩,⟨by(with_reducible repeat (first|refine blk_drewN ?_ _|refine blk_drew ?_|refine blk_alloc ?_ _));exact aa.out⟩,⟨by repeat (first|(with_reducible first|exact HB.out|apply below_alloc|apply pw_below_drewN|apply below_drew1|refine below_set ?_ aj.out)|exact HB.out)⟩⟩
  rw[if_neg c4]at H
  have am:decide (ac<1)=false:=decide_eq_false c4
  clear c4
  (first|rw[am]|rw[aB]|(simp only[i64_w,i32_w];rw[am])|skip)
  have H':=Aside0.mk H
  clear H
  have ax:w3.cell? ⟨ae,0,none⟩=some (.int .i64 ac):=(blk_cell aa.out 0).trans rfl
  have ay:w3.cell? ⟨ae,1,none⟩=some (.slice ah ab.length ai):=(blk_cell aa.out 1).trans rfl
  have az:=blk_frozen aa.out 0
  have aA:=blk_frozen aa.out 1
  go_wp2
  go_meet
  case rel=>exact⟨_,(decide (ac>4096)),X0,H',⟨F2⟩,⟨by(with_reducible repeat (first|refine blk_drewN ?_ _|refine blk_drew ?_|refine blk_alloc ?_ _));exact aa.out⟩,⟨by repeat (first|(with_reducible first|exact HB.out|apply below_alloc|apply pw_below_drewN|apply below_drew1|refine below_set ?_ aj.out)|exact HB.out)⟩⟩
 case rest=>
  clear HC2
  try clear p2
  try clear c3
  try clear c4
  try clear am
  try clear aB
  try clear ar
  try clear au
  try clear ax
  try clear ay
  try clear av
  try clear aw
  try clear az
  try clear aA
  obtain⟨kq,ap,rfl,HA,HJ1,aa,HB⟩:=hcut
  cases kq with
  | zero=>exact absurd HA.out (by simp[tribunalref09_Right.j0])
  | succ kj1=>
   have H:=HA.out
   clear HA
   simp only[tribunalref09_Right.j0]at H
   by_cases c7:ap=true
   ·subst c7
    have H1:(some false)=some r:=by rw[if_pos rfl]at H;exact H
    clear H
    have H:=H1
    clear H1
    obtain rfl:=Option.some.inj H
    go_wp2
    go_ret
    exact⟨J0,by repeat (first|(with_reducible first|exact HB.out|apply below_alloc|apply pw_below_drewN|apply below_drew1|refine below_set ?_ aj.out)|exact HB.out)⟩
   replace c7:=Bool.eq_false_iff.mpr c7
   subst c7
   have H1:(tribunalref09_Right.l0 kj1 ac ac ab)=some r:=by rw[if_neg (show ¬(false=true) by decide)]at H;exact H
   clear H
   have H:=H1
   clear H1
   have H':=Aside0.mk H
   clear H
   have aG:wc.cell? ⟨ae,0,none⟩=some (.int .i64 ac):=(blk_cell aa.out 0).trans rfl
   have aH:wc.cell? ⟨ae,1,none⟩=some (.slice ah ab.length ai):=(blk_cell aa.out 1).trans rfl
   have aI:=blk_frozen aa.out 0
   have aJ:=blk_frozen aa.out 1
   go_wp2
   go_loopg [3] kj1 (fun kq v3 w'=>∃(af:Int),v3=.int .i64 af∧Aside0 (tribunalref09_Right.l0 kq af ac ab=some r)∧Aside0 (kq≤kj1)∧Aside0 (w'.heap[ae]? = some (.cells #[.int .i64 ac,(.slice ah ab.length ai)] 28 (0,0)))∧Aside0 (Below w.heap.size w w'))
   case atStart=>exact⟨(ac),X0,H',⟨Nat.le_refl _⟩,⟨by(with_reducible repeat (first|refine blk_drewN ?_ _|refine blk_drew ?_|refine blk_alloc ?_ _));exact aa.out⟩,⟨by repeat (first|(with_reducible first|exact HB.out|apply below_alloc|apply pw_below_drewN|apply below_drew1|refine below_set ?_ aj.out)|exact HB.out)⟩⟩
   case round=>
    clear H'
    try clear p2
    try clear c3
    try clear c4
    try clear am
    try clear aB
    try clear c7
    try clear ar
    try clear au
    try clear ax
    try clear ay
    try clear aG
    try clear aH
    try clear av
    try clear aw
    try clear az
    try clear aA
    try clear aI
    try clear aJ
    try clear p2
    obtain⟨af,rfl,HA,HK2,aa,HB⟩:=hrel
    cases gk with
    | zero=>exact absurd HA.out (by simp[tribunalref09_Right.l0])
    | succ k2=>
     have H:=HA.out
     clear HA
     simp only[tribunalref09_Right.l0]at H
     by_cases c9:af<(wrap64 (64*(ab.length:Int)))
     ·rw [if_pos c9]at H
      have aN:decide (af<(wrap64 (64*(ab.length:Int))))=true:=decide_eq_true c9
      clear c9
      obtain⟨ad,hji10⟩:∃j_:Int,(wrap64 (Int.tdiv af 64))=j_:=⟨_,rfl⟩
      replace H:(if 0≤(ad) then(if(ad)<(ab.length:Int) then(if 0≤(IntKind.u64.wrap (Int.tmod af 64)) then(if(Go.bits .and .u64 (shr .u64 (rd ab (ad)) (IntKind.u64.wrap (Int.tmod af 64))) 1)=1 then(some false) else(tribunalref09_Right.l0 k2 (wrap64 (af+1)) ac ab)) else(none)) else(none)) else(none))=some r:=by first|(rw[hji10]at H;exact H)|(simp only[hji10]at H ⊢;exact H)
      have bb:(IntKind.i64.wrap (Int.tdiv af 64))=ad:=(i64_w _).trans hji10
      by_cases c11:0≤(ad)
      ·rw [if_pos c11]at H
       have bf:decide (0≤(ad))=true:=decide_eq_true c11
       clear c11
       by_cases c12:(ad)<(ab.length:Int)
       ·rw[if_pos c12]at H
        have bg:decide ((ad)<(ab.length:Int))=true:=decide_eq_true c12
        clear c12
        obtain⟨ak,aq⟩:∃j_:Int,(IntKind.u64.wrap (Int.tmod af 64))=j_:=⟨_,rfl⟩
        replace H:(if 0≤(ak) then(if(Go.bits .and .u64 (shr .u64 (rd ab (ad)) (ak)) 1)=1 then(some false) else(tribunalref09_Right.l0 k2 (wrap64 (af+1)) ac ab)) else(none))=some r:=by first|(rw[aq]at H;exact H)|(simp only[aq]at H ⊢;exact H)
        by_cases c14:0≤(ak)
        ·rw[if_pos c14]at H
         have bh:=eq_true c14
         have bi:decide (0≤(ak))=true:=decide_eq_true c14
         clear c14
         obtain⟨al,hji15⟩:∃j_:Int,(shr .u64 (rd ab (ad)) (ak))=j_:=⟨_,rfl⟩
         replace H:(if(Go.bits .and .u64 (al) 1)=1 then(some false) else(tribunalref09_Right.l0 k2 (wrap64 (af+1)) ac ab))=some r:=by first|(rw[hji15]at H;exact H)|(simp only[hji15]at H ⊢;exact H)
         have hji15_:((rd ab (ad))/2^min (ak).toNat 64)=al:=hji15
         have bc:(ak)≤64→((rd ab (ad))/2^(ak).toNat)=al:=shr_small hji15
         by_cases c16:(Go.bits .and .u64 (al) 1)=1
         ·rw[if_pos c16]at H
          have aK:((Go.bits .and .u64 (al) 1)==1)=true:=beq_iff_eq.mpr c16
          have aL:((Go.bits .and .u64 (al) 1) != 1)=false:=bne_eq_false_iff_eq.mpr c16
          clear c16
          obtain rfl:=Option.some.inj H
          have aO:wr.cell? ⟨ae,0,none⟩=some (.int .i64 ac):=(blk_cell aa.out 0).trans rfl
          have aP:wr.cell? ⟨ae,1,none⟩=some (.slice ah ab.length ai):=(blk_cell aa.out 1).trans rfl
          have aQ:=blk_frozen aa.out 0
          have aR:=blk_frozen aa.out 1
          have an:0≤((ad):Int):=of_decide_eq_true ‹_›
          have ao:(ad)<(ab.length:Int):=of_decide_eq_true ‹_›
          obtain⟨aM,aC,ag⟩:=Kd.at_int aF.out (ad) an ao
          cases aC
          replace ag:=(HB.out.cell (World.block_lt_of_cell? w _ ag)).trans ag
          replace an:=eq_true an
          replace ao:=eq_true ao
          go_wp2
          go_ret
          exact⟨by first|rfl|(simp[errW_none,errW_some]<;>rfl)|(simp only[←hji10,←aq,←hji15];first|rfl|(simp[errW_none,errW_some]<;>rfl))|(simp[*,errW_none,errW_some]<;>rfl),by repeat (first|(with_reducible first|exact HB.out|apply below_alloc|apply pw_below_drewN|apply below_drew1|refine below_set ?_ aj.out)|exact HB.out)⟩
         rw[if_neg c16]at H
         have aK:((Go.bits .and .u64 (al) 1)==1)=false:=beq_eq_false_iff_ne.mpr c16
         have aL:((Go.bits .and .u64 (al) 1) != 1)=true:=bne_iff_ne.mpr c16
         have H':=Aside0.mk H
         clear H
         have aS:wr.cell? ⟨ae,0,none⟩=some (.int .i64 ac):=(blk_cell aa.out 0).trans rfl
         have aT:wr.cell? ⟨ae,1,none⟩=some (.slice ah ab.length ai):=(blk_cell aa.out 1).trans rfl
         have aU:=blk_frozen aa.out 0
         have aV:=blk_frozen aa.out 1
         have an:0≤((ad):Int):=of_decide_eq_true ‹_›
         have ao:(ad)<(ab.length:Int):=of_decide_eq_true ‹_›
         obtain⟨aM,aC,ag⟩:=Kd.at_int aF.out (ad) an ao
         cases aC
         replace ag:=(HB.out.cell (World.block_lt_of_cell? w _ ag)).trans ag
         replace an:=eq_true an
         replace ao:=eq_true ao
         go_wp2
         go_roundg k2
         case measure=>have:=HJ1.out;have:=HK2.out;omega
         case rel=>exact⟨(wrap64 (af+1)),X0,H',⟨by have:=HJ1.out;have:=HK2.out;omega⟩,⟨by(with_reducible repeat (first|refine blk_drewN ?_ _|refine blk_drew ?_|refine blk_alloc ?_ _));exact aa.out⟩,⟨by repeat (first|(with_reducible first|exact HB.out|apply below_alloc|apply pw_below_drewN|apply below_drew1|refine below_set ?_ aj.out)|exact HB.out)⟩⟩
        rw[if_neg c14]at H
        exact absurd H B0
       rw[if_neg c12]at H
       exact absurd H B0
      rw[if_neg c11]at H
      exact absurd H B0
     rw[if_neg c9]at H
     have aN:decide (af<(wrap64 (64*(ab.length:Int))))=false:=decide_eq_false c9
     clear c9
     obtain rfl:=Option.some.inj H
     have aW:wr.cell? ⟨ae,0,none⟩=some (.int .i64 ac):=(blk_cell aa.out 0).trans rfl
     have aX:wr.cell? ⟨ae,1,none⟩=some (.slice ah ab.length ai):=(blk_cell aa.out 1).trans rfl
     have aY:=blk_frozen aa.out 0
     have aZ:=blk_frozen aa.out 1
     go_wp2
     go_ret
     exact⟨J0,by repeat (first|(with_reducible first|exact HB.out|apply below_alloc|apply pw_below_drewN|apply below_drew1|refine below_set ?_ aj.out)|exact HB.out)⟩
def tribunalref09_Width.f (a0:Int) (l1:List Int) (l2:List (S28)):Option (Int):=if 0<(l2.length:Int) then(if a0=41 then(if 1<(l2.length:Int) then(some (wrap64 (((rd_T28 l2 0).f0)+((rd_T28 l2 1).f0)))) else(none)) else(if a0=42 then(if 0<(l1.length:Int) then(if 1<(l1.length:Int) then(some (wrap64 ((wrap64 ((rd l1 0)-(rd l1 1)))+1))) else(none)) else(none)) else(if a0=51 then(some 1) else(if a0=63 then(if 0<(l1.length:Int) then(some (wrap64 (((rd_T28 l2 0).f0)*(rd l1 0)))) else(none)) else(if a0=64 then(if 0<(l1.length:Int) then(some (wrap64 (((rd_T28 l2 0).f0)+(rd l1 0)))) else(none)) else(if a0=65 then(if 0<(l1.length:Int) then(some (wrap64 (((rd_T28 l2 0).f0)+(rd l1 0)))) else(none)) else(some ((rd_T28 l2 0).f0)))))))) else(none)
theorem tribunalref09_Width.calls (a0:Int) (A1:Option Addr) (c1:Nat) (l1:List Int) (A2:Option Addr) (c2:Nat) (l2:List (S28)) (r:Int) (w:World) (hr1:Kd.C (Kd.int .i64) w A1 l1.length l1) (hc1:l1.length≤c1) (hr2:Kd.C k28 w A2 l2.length l2) (hc2:l2.length≤c2) (h:tribunalref09_Width.f a0 l1 l2=some r) :
  Calls Tryz.prog 36 #[.int .i64 a0,.slice A1 l1.length c1,.slice A2 l2.length c2] w fun e w'=>e=.returned (.int .i64 r)∧Drawn0 w w':=by
 have HR1:=Aside0.mk hr1
 have HC1:=Aside0.mk hc1
 clear hr1 hc1
 have HR2:=Aside0.mk hr2
 have HC2:=Aside0.mk hc2
 clear hr2 hc2
 have H:(if 0<(l2.length:Int) then(if a0=41 then(if 1<(l2.length:Int) then(some (wrap64 (((rd_T28 l2 0).f0)+((rd_T28 l2 1).f0)))) else(none)) else(if a0=42 then(if 0<(l1.length:Int) then(if 1<(l1.length:Int) then(some (wrap64 ((wrap64 ((rd l1 0)-(rd l1 1)))+1))) else(none)) else(none)) else(if a0=51 then(some 1) else(if a0=63 then(if 0<(l1.length:Int) then(some (wrap64 (((rd_T28 l2 0).f0)*(rd l1 0)))) else(none)) else(if a0=64 then(if 0<(l1.length:Int) then(some (wrap64 (((rd_T28 l2 0).f0)+(rd l1 0)))) else(none)) else(if a0=65 then(if 0<(l1.length:Int) then(some (wrap64 (((rd_T28 l2 0).f0)+(rd l1 0)))) else(none)) else(some ((rd_T28 l2 0).f0)))))))) else(none))=some r:=h
 clear h
 by_cases c4:0<(l2.length:Int)
 ·rw [if_pos c4]at H
  have bD:decide (0<(l2.length:Int))=true:=decide_eq_true c4
  have bE:decide (0<l2.length)=true:=decide_eq_true Y0
  clear c4
  by_cases c5:a0=41
  ·rw[if_pos c5]at H
   have aV:(a0==41)=true:=beq_iff_eq.mpr c5
   have aW:(a0 != 41)=false:=bne_eq_false_iff_eq.mpr c5
   clear c5
   by_cases c6:1<(l2.length:Int)
   ·rw[if_pos c6]at H
    have bF:decide (1<(l2.length:Int))=true:=decide_eq_true c6
    have bG:decide (1<l2.length)=true:=decide_eq_true Y0
    clear c6
    obtain rfl:=Option.some.inj H
    have ae:0≤(0:Int):=Y0
    have af:0<(l2.length:Int):=of_decide_eq_true ‹_›
    obtain⟨al,aj,ak,ag,aa,ab,ac,ad⟩:=at_T28 HR2.out 0 ae af
    cases ag
    have am:(0<l2.length)=True:=eq_true Y0
    (try rw[show((0:Int)).toNat=0 from rfl]at aa)
    (try rw[show 0*2=0 from rfl]at aa)
    (try rw[Addr.add_zero']at aa)
    (try rw[show((0:Int)).toNat=0 from rfl]at ab)
    (try rw[show 0*2=0 from rfl]at ab)
    (try rw[Addr.add_zero']at ab)
    have ah:=Aside0.mk ad
    have ai:=Aside0.mk ac
    clear ad ac
    replace ae:=eq_true ae
    replace af:=eq_true af
    have ay:0≤(1:Int):=Y0
    have az:1<(l2.length:Int):=of_decide_eq_true ‹_›
    obtain⟨aK,bi,bj,aX,an,ao,ap,aq⟩:=at_T28 HR2.out 1 ay az
    obtain rfl:al=aK:=(by injection aX)
    (try simp only[show(1:Int).toNat=1 from rfl,Nat.reduceMul,Nat.reduceEqDiff,Go.Addr.add,↓reduceIte]at an)
    (try simp only[show(1:Int).toNat=1 from rfl,Nat.reduceMul,Nat.reduceEqDiff,Go.Addr.add,↓reduceIte]at ao)
    have bk:(1<l2.length)=True:=eq_true Y0
    (try rw[show((1:Int)).toNat=1 from rfl]at an)
    (try rw[show 1*2=2 from rfl]at an)
    (try rw[show((1:Int)).toNat=1 from rfl]at ao)
    (try rw[show 1*2=2 from rfl]at ao)
    have bg:=Aside0.mk aq
    have bh:=Aside0.mk ap
    clear aq ap
    replace ay:=eq_true ay
    replace az:=eq_true az
    go_enter Tryz.func36,Tryz.ntmps36
    go_wp2
    repeat (go_quiet (fail);try go_wp2)
    go_ret
    exact⟨X0,U0⟩
   rw[if_neg c6]at H
   exact absurd H B0
  rw[if_neg c5]at H
  have aV:(a0==41)=false:=beq_eq_false_iff_ne.mpr c5
  have aW:(a0 != 41)=true:=bne_iff_ne.mpr c5
  by_cases c7:a0=42
  ·rw[if_pos c7]at H
   have aY:(a0==42)=true:=beq_iff_eq.mpr c7
   have aZ:(a0 != 42)=false:=bne_eq_false_iff_eq.mpr c7
   clear c7
   by_cases c8:0<(l1.length:Int)
   ·rw[if_pos c8]at H
    have bH:decide (0<(l1.length:Int))=true:=decide_eq_true c8
    have bI:decide (0<l1.length)=true:=decide_eq_true Y0
    clear c8
    by_cases c9:1<(l1.length:Int)
    ·rw[if_pos c9]at H
     have bJ:decide (1<(l1.length:Int))=true:=decide_eq_true c9
     have bK:decide (1<l1.length)=true:=decide_eq_true Y0
     clear c9
     obtain rfl:=Option.some.inj H
     have ae:0≤(0:Int):=Y0
     have af:0<(l2.length:Int):=of_decide_eq_true ‹_›
     obtain⟨al,aj,ak,ag,aa,ab,ac,ad⟩:=at_T28 HR2.out 0 ae af
     cases ag
     have am:(0<l2.length)=True:=eq_true Y0
     (try rw[show((0:Int)).toNat=0 from rfl]at aa)
     (try rw[show 0*2=0 from rfl]at aa)
     (try rw[Addr.add_zero']at aa)
     (try rw[show((0:Int)).toNat=0 from rfl]at ab)
     (try rw[show 0*2=0 from rfl]at ab)
     (try rw[Addr.add_zero']at ab)
     have ah:=Aside0.mk ad
     have ai:=Aside0.mk ac
     clear ad ac
     replace ae:=eq_true ae
     replace af:=eq_true af
     have aA:0≤(0:Int):=Y0
     have aB:0<(l1.length:Int):=of_decide_eq_true ‹_›
     obtain⟨aL,bb,ar⟩:=Kd.at_int HR1.out 0 aA aB
     cases bb
     have bl:(0<l1.length)=True:=eq_true Y0
     (try rw[show((0:Int)).toNat=0 from rfl]at ar)
     (try rw[Addr.add_zero']at ar)
     replace aA:=eq_true aA
     replace aB:=eq_true aB
     have aC:0≤(1:Int):=Y0
     have aD:1<(l1.length:Int):=of_decide_eq_true ‹_›
     obtain⟨aM,bc,au⟩:=Kd.at_int HR1.out 1 aC aD
     obtain rfl:aL=aM:=(by injection bc)
     (try simp only[show(1:Int).toNat=1 from rfl,Nat.reduceMul,Nat.reduceEqDiff,Go.Addr.add,↓reduceIte]at au)
     have bn:(1<l1.length)=True:=eq_true Y0
     (try rw[show((1:Int)).toNat=1 from rfl]at au)
     replace aC:=eq_true aC
     replace aD:=eq_true aD
     go_enter Tryz.func36,Tryz.ntmps36
     go_wp2
     repeat (go_quiet (fail);try go_wp2)
     go_ret
     exact⟨X0,U0⟩
    rw[if_neg c9]at H
    exact absurd H B0
   rw[if_neg c8]at H
   exact absurd H B0
  rw[if_neg c7]at H
  have aY:(a0==42)=false:=beq_eq_false_iff_ne.mpr c7
  have aZ:(a0 != 42)=true:=bne_iff_ne.mpr c7
  by_cases c10:a0=51
  ·rw[if_pos c10]at H
   have aN:(a0==51)=true:=beq_iff_eq.mpr c10
   have aO:(a0 != 51)=false:=bne_eq_false_iff_eq.mpr c10
   clear c10
   obtain rfl:=Option.some.inj H
   have ae:0≤(0:Int):=Y0
   have af:0<(l2.length:Int):=of_decide_eq_true ‹_›
   obtain⟨al,aj,ak,ag,aa,ab,ac,ad⟩:=at_T28 HR2.out 0 ae af
   cases ag
   have am:(0<l2.length)=True:=eq_true Y0
   (try rw[show((0:Int)).toNat=0 from rfl]at aa)
   (try rw[show 0*2=0 from rfl]at aa)
   (try rw[Addr.add_zero']at aa)
   (try rw[show((0:Int)).toNat=0 from rfl]at ab)
   (try rw[show 0*2=0 from rfl]at ab)
   (try rw[Addr.add_zero']at ab)
   have ah:=Aside0.mk ad
   have ai:=Aside0.mk ac
   clear ad ac
   replace ae:=eq_true ae
   replace af:=eq_true af
   go_enter Tryz.func36,Tryz.ntmps36
   go_wp2
   repeat (go_quiet (fail);try go_wp2)
   go_ret
   exact⟨X0,U0⟩
  rw[if_neg c10]at H
  have aN:(a0==51)=false:=beq_eq_false_iff_ne.mpr c10
  have aO:(a0 != 51)=true:=bne_iff_ne.mpr c10
  by_cases c11:a0=63
  ·rw[if_pos c11]at H
   have aP:(a0==63)=true:=beq_iff_eq.mpr c11
   have aQ:(a0 != 63)=false:=bne_eq_false_iff_eq.mpr c11
   clear c11
   by_cases c12:0<(l1.length:Int)
   ·rw[if_pos c12]at H
    have bo:decide (0<(l1.length:Int))=true:=decide_eq_true c12
    have bp:decide (0<l1.length)=true:=decide_eq_true Y0
    clear c12
    obtain rfl:=Option.some.inj H
    have ae:0≤(0:Int):=Y0
    have af:0<(l2.length:Int):=of_decide_eq_true ‹_›
    obtain⟨al,aj,ak,ag,aa,ab,ac,ad⟩:=at_T28 HR2.out 0 ae af
    cases ag
    have am:(0<l2.length)=True:=eq_true Y0
    (try rw[show((0:Int)).toNat=0 from rfl]at aa)
    (try rw[show 0*2=0 from rfl]at aa)
    (try rw[Addr.add_zero']at aa)
    (try rw[show((0:Int)).toNat=0 from rfl]at ab)
    (try rw[show 0*2=0 from rfl]at ab)
    (try rw[Addr.add_zero']at ab)
    have ah:=Aside0.mk ad
    have ai:=Aside0.mk ac
    clear ad ac
    replace ae:=eq_true ae
    replace af:=eq_true af
    have aE:0≤(0:Int):=Y0
    have aF:0<(l1.length:Int):=of_decide_eq_true ‹_›
    obtain⟨bq,bd,av⟩:=Kd.at_int HR1.out 0 aE aF
    cases bd
    have br:(0<l1.length)=True:=eq_true Y0
    (try rw[show((0:Int)).toNat=0 from rfl]at av)
    (try rw[Addr.add_zero']at av)
    replace aE:=eq_true aE
    replace aF:=eq_true aF
    go_enter Tryz.func36,Tryz.ntmps36
    go_wp2
    repeat (go_quiet (fail);try go_wp2)
    go_ret
    exact⟨X0,U0⟩
   rw[if_neg c12]at H
   exact absurd H B0
  rw[if_neg c11]at H
  have aP:(a0==63)=false:=beq_eq_false_iff_ne.mpr c11
  have aQ:(a0 != 63)=true:=bne_iff_ne.mpr c11
  by_cases c13:a0=64
  ·rw[if_pos c13]at H
   have aR:(a0==64)=true:=beq_iff_eq.mpr c13
   have aS:(a0 != 64)=false:=bne_eq_false_iff_eq.mpr c13
   clear c13
   by_cases c14:0<(l1.length:Int)
   ·rw[if_pos c14]at H
    have bu:decide (0<(l1.length:Int))=true:=decide_eq_true c14
    have bv:decide (0<l1.length)=true:=decide_eq_true Y0
    clear c14
    obtain rfl:=Option.some.inj H
    have ae:0≤(0:Int):=Y0
    have af:0<(l2.length:Int):=of_decide_eq_true ‹_›
    obtain⟨al,aj,ak,ag,aa,ab,ac,ad⟩:=at_T28 HR2.out 0 ae af
    cases ag
    have am:(0<l2.length)=True:=eq_true Y0
    (try rw[show((0:Int)).toNat=0 from rfl]at aa)
    (try rw[show 0*2=0 from rfl]at aa)
    (try rw[Addr.add_zero']at aa)
    (try rw[show((0:Int)).toNat=0 from rfl]at ab)
    (try rw[show 0*2=0 from rfl]at ab)
    (try rw[Addr.add_zero']at ab)
    have ah:=Aside0.mk ad
    have ai:=Aside0.mk ac
    clear ad ac
    replace ae:=eq_true ae
    replace af:=eq_true af
    have aG:0≤(0:Int):=Y0
    have aH:0<(l1.length:Int):=of_decide_eq_true ‹_›
    obtain⟨bw,be,aw⟩:=Kd.at_int HR1.out 0 aG aH
    cases be
    have bx:(0<l1.length)=True:=eq_true Y0
    (try rw[show((0:Int)).toNat=0 from rfl]at aw)
    (try rw[Addr.add_zero']at aw)
    replace aG:=eq_true aG
    replace aH:=eq_true aH
    go_enter Tryz.func36,Tryz.ntmps36
    go_wp2
    repeat (go_quiet (fail);try go_wp2)
    go_ret
    exact⟨X0,U0⟩
   rw[if_neg c14]at H
   exact absurd H B0
  rw[if_neg c13]at H
  have aR:(a0==64)=false:=beq_eq_false_iff_ne.mpr c13
  have aS:(a0 != 64)=true:=bne_iff_ne.mpr c13
  by_cases c15:a0=65
  ·rw[if_pos c15]at H
   have aT:(a0==65)=true:=beq_iff_eq.mpr c15
   have aU:(a0 != 65)=false:=bne_eq_false_iff_eq.mpr c15
   clear c15
   by_cases c16:0<(l1.length:Int)
   ·rw[if_pos c16]at H
    have bz:decide (0<(l1.length:Int))=true:=decide_eq_true c16
    have bA:decide (0<l1.length)=true:=decide_eq_true Y0
    clear c16
    obtain rfl:=Option.some.inj H
    have ae:0≤(0:Int):=Y0
    have af:0<(l2.length:Int):=of_decide_eq_true ‹_›
    obtain⟨al,aj,ak,ag,aa,ab,ac,ad⟩:=at_T28 HR2.out 0 ae af
    cases ag
    have am:(0<l2.length)=True:=eq_true Y0
    (try rw[show((0:Int)).toNat=0 from rfl]at aa)
    (try rw[show 0*2=0 from rfl]at aa)
    (try rw[Addr.add_zero']at aa)
    (try rw[show((0:Int)).toNat=0 from rfl]at ab)
    (try rw[show 0*2=0 from rfl]at ab)
    (try rw[Addr.add_zero']at ab)
    have ah:=Aside0.mk ad
    have ai:=Aside0.mk ac
    clear ad ac
    replace ae:=eq_true ae
    replace af:=eq_true af
    have aI:0≤(0:Int):=Y0
    have aJ:0<(l1.length:Int):=of_decide_eq_true ‹_›
    obtain⟨bB,bf,ax⟩:=Kd.at_int HR1.out 0 aI aJ
    cases bf
    have bC:(0<l1.length)=True:=eq_true Y0
    (try rw[show((0:Int)).toNat=0 from rfl]at ax)
    (try rw[Addr.add_zero']at ax)
    replace aI:=eq_true aI
    replace aJ:=eq_true aJ
    go_enter Tryz.func36,Tryz.ntmps36
    go_wp2
    repeat (go_quiet (fail);try go_wp2)
    go_ret
    exact⟨X0,U0⟩
   rw[if_neg c16]at H
   exact absurd H B0
  rw[if_neg c15]at H
  have aT:(a0==65)=false:=beq_eq_false_iff_ne.mpr c15
  have aU:(a0 != 65)=true:=bne_iff_ne.mpr c15
  obtain rfl:=Option.some.inj H
  have ae:0≤(0:Int):=Y0
  have af:0<(l2.length:Int):=of_decide_eq_true ‹_›
  obtain⟨al,aj,ak,ag,aa,ab,ac,ad⟩:=at_T28 HR2.out 0 ae af
  cases ag
  have am:(0<l2.length)=True:=eq_true Y0
  (try rw[show((0:Int)).toNat=0 from rfl]at aa)
  (try rw[show 0*2=0 from rfl]at aa)
  (try rw[Addr.add_zero']at aa)
  (try rw[show((0:Int)).toNat=0 from rfl]at ab)
  (try rw[show 0*2=0 from rfl]at ab)
  (try rw[Addr.add_zero']at ab)
  have ah:=Aside0.mk ad
  have ai:=Aside0.mk ac
  clear ad ac
  replace ae:=eq_true ae
  replace af:=eq_true af
  go_enter Tryz.func36,Tryz.ntmps36
  go_wp2
  repeat (go_quiet (fail);try go_wp2)
  go_ret
  exact⟨X0,U0⟩
 rw[if_neg c4]at H
 exact absurd H B0
mutual
def tribunalref09_kind.j0:Nat→Int→Int→Bool→Option (Int×Int×Int)
 | 0,_,_,_=>none
 | k+1,x0,x5,x6=>if x6=true then(some (1,2,0)) else(if x5=42 then(some (1,1,2)) else(if x5=63 then(tribunalref09_kind.j1 k x0 x5 (x5==63)) else(if x5=64 then(tribunalref09_kind.j1 k x0 x5 (x5==64)) else(if x5=65 then(tribunalref09_kind.j1 k x0 x5 (x5==65)) else(if x5=66 then(tribunalref09_kind.j1 k x0 x5 (x5==66)) else(tribunalref09_kind.j1 k x0 x5 (x5==67)))))))
def tribunalref09_kind.j1:Nat→Int→Int→Bool→Option (Int×Int×Int)
 | 0,_,_,_=>none
 | k+1,x0,x5,x11=>if x11=true then(some (1,1,1)) else(if x5=43 then(some (1,1,0)) else(if x5=44 then(some (1,1,0)) else(if x0≥45 then(tribunalref09_kind.j2 k x0 (decide (x0≤62))) else(tribunalref09_kind.j2 k x0 false))))
def tribunalref09_kind.j2:Nat→Int→Bool→Option (Int×Int×Int)
 | 0,_,_=>none
 | k+1,x0,x25=>if x25=true then(some (1,2,0)) else(if x0≥68 then(if x0≤75 then(some (2,2,0)) else(some (0,0,0))) else(some (0,0,0)))
end
def tribunalref09_kind.f (k:Nat) (a0:Int):Option (Int×Int×Int):=if a0=41 then(tribunalref09_kind.j0 k a0 a0 (a0==41)) else(tribunalref09_kind.j0 k a0 a0 (a0==51))
theorem tribunalref09_kind.calls (k:Nat) (a0:Int) (r1:Int) (r2:Int) (r3:Int) (w:World) (h:tribunalref09_kind.f k a0=some (r1,r2,r3)) :
  Calls Tryz.prog 73 #[.int .i64 a0] w fun e w'=>e=.returned (.tuple #[.int .i64 r1,.int .i64 r2,.int .i64 r3])∧Drawn0 w w':=by
 have H:(if a0=41 then(tribunalref09_kind.j0 k a0 a0 (a0==41)) else(tribunalref09_kind.j0 k a0 a0 (a0==51)))=some (r1,r2,r3):=h
 clear h
 have HC2:=Aside0.mk H
 clear H
 go_enter Tryz.func73,Tryz.ntmps73
 go_upto_if 6 with(fail)
 go_cut [6] (fun v6 wc=>∃(kq:Nat) (ah:Bool),v6=.bool ah∧Aside0 (tribunalref09_kind.j0 kq a0 a0 ah=some (r1,r2,r3))∧Aside0 (kq≤k)∧Drawn0 w wc)
 case first=>
  have H:=HC2.out
  clear HC2
  by_cases c3:a0=41
  ·rw[if_pos c3]at H
   have aa:(a0==41)=true:=beq_iff_eq.mpr c3
   have ae:(a0 != 41)=false:=bne_eq_false_iff_eq.mpr c3
   clear c3
   (first|rw[aa]|rw[ae]|(simp only[i64_w,i32_w];rw[aa])|skip)
   have H':=Aside0.mk H
   clear H
   go_wp2
   go_meet
   case rel=>exact⟨_,((a0==41)),X0,H',⟨F2⟩,U0⟩
  rw[if_neg c3]at H
  have aa:(a0==41)=false:=beq_eq_false_iff_ne.mpr c3
  have ae:(a0 != 41)=true:=bne_iff_ne.mpr c3
  (first|rw[aa]|rw[ae]|(simp only[i64_w,i32_w];rw[aa])|skip)
  have H':=Aside0.mk H
  clear H
  go_wp2
  go_meet
  case rel=>exact⟨_,((a0==51)),X0,H',⟨F2⟩,U0⟩
 case rest=>
  clear HC2
  try clear p2
  try clear c3
  try clear aa
  try clear ae
  obtain⟨kq,ah,rfl,HA,HJ1,⟨mc1,rfl⟩⟩:=hcut
  cases kq with
  | zero=>exact absurd HA.out (by simp[tribunalref09_kind.j0])
  | succ kj1=>
   have H:=HA.out
   clear HA
   simp only[tribunalref09_kind.j0]at H
   by_cases c4:ah=true
   ·subst c4
    have H1:(some (1,2,0))=some (r1,r2,r3):=by rw[if_pos rfl]at H;exact H
    clear H
    have H:=H1
    clear H1
    simp only[Option.some.injEq,Prod.mk.injEq]at H
    obtain⟨rfl,rfl,rfl⟩:=H
    go_wp2
    go_ret3
    exact⟨X0,U0⟩
   replace c4:=Bool.eq_false_iff.mpr c4
   subst c4
   have H1:(if a0=42 then(some (1,1,2)) else(if a0=63 then(tribunalref09_kind.j1 kj1 a0 a0 (a0==63)) else(if a0=64 then(tribunalref09_kind.j1 kj1 a0 a0 (a0==64)) else(if a0=65 then(tribunalref09_kind.j1 kj1 a0 a0 (a0==65)) else(if a0=66 then(tribunalref09_kind.j1 kj1 a0 a0 (a0==66)) else(tribunalref09_kind.j1 kj1 a0 a0 (a0==67)))))))=some (r1,r2,r3):=by rw[if_neg (show ¬(false=true) by decide)]at H;exact H
   clear H
   have H:=H1
   clear H1
   by_cases c5:a0=42
   ·rw[if_pos c5]at H
    have ak:(a0==42)=true:=beq_iff_eq.mpr c5
    have al:(a0 != 42)=false:=bne_eq_false_iff_eq.mpr c5
    clear c5
    simp only[Option.some.injEq,Prod.mk.injEq]at H
    obtain⟨rfl,rfl,rfl⟩:=H
    go_wp2
    go_ret3
    exact⟨X0,U0⟩
   rw[if_neg c5]at H
   have ak:(a0==42)=false:=beq_eq_false_iff_ne.mpr c5
   have al:(a0 != 42)=true:=bne_iff_ne.mpr c5
   have HC6:=Aside0.mk H
   clear H
   go_upto_if 11 with(fail)
   go_cut [11] (fun v11 wc=>∃(kq:Nat) (af:Bool),v11=.bool af∧Aside0 (tribunalref09_kind.j1 kq a0 a0 af=some (r1,r2,r3))∧Aside0 (kq≤kj1)∧Drawn0 w wc)
   case first=>
    have H:=HC6.out
    clear HC6
    by_cases c7:a0=63
    ·rw[if_pos c7]at H
     have ac:(a0==63)=true:=beq_iff_eq.mpr c7
     have ag:(a0 != 63)=false:=bne_eq_false_iff_eq.mpr c7
     clear c7
     (first|rw[ac]|rw[ag]|(simp only[i64_w,i32_w];rw[ac])|skip)
     have H':=Aside0.mk H
     clear H
     go_wp2
     go_meet
     case rel=>exact⟨_,((a0==63)),X0,H',⟨X4⟩,U0⟩
    rw[if_neg c7]at H
    have ac:(a0==63)=false:=beq_eq_false_iff_ne.mpr c7
    have ag:(a0 != 63)=true:=bne_iff_ne.mpr c7
    (first|rw[ac]|rw[ag]|(simp only[i64_w,i32_w];rw[ac])|skip)
    by_cases c8:a0=64
    ·rw[if_pos c8]at H
     have am:(a0==64)=true:=beq_iff_eq.mpr c8
     have an:(a0 != 64)=false:=bne_eq_false_iff_eq.mpr c8
     clear c8
     have H':=Aside0.mk H
     clear H
     go_wp2
     go_meet
     case rel=>exact⟨_,((a0==64)),X0,H',⟨X4⟩,U0⟩
    rw[if_neg c8]at H
    have am:(a0==64)=false:=beq_eq_false_iff_ne.mpr c8
    have an:(a0 != 64)=true:=bne_iff_ne.mpr c8
    by_cases c9:a0=65
    ·rw[if_pos c9]at H
     have ao:(a0==65)=true:=beq_iff_eq.mpr c9
     have ap:(a0 != 65)=false:=bne_eq_false_iff_eq.mpr c9
     clear c9
     have H':=Aside0.mk H
     clear H
     go_wp2
     go_meet
     case rel=>exact⟨_,((a0==65)),X0,H',⟨X4⟩,U0⟩
    rw[if_neg c9]at H
    have ao:(a0==65)=false:=beq_eq_false_iff_ne.mpr c9
    have ap:(a0 != 65)=true:=bne_iff_ne.mpr c9
    by_cases c10:a0=66
    ·rw[if_pos c10]at H
     have ai:(a0==66)=true:=beq_iff_eq.mpr c10
     have aj:(a0 != 66)=false:=bne_eq_false_iff_eq.mpr c10
     clear c10
     have H':=Aside0.mk H
     clear H
     go_wp2
     go_meet
     case rel=>exact⟨_,((a0==66)),X0,H',⟨X4⟩,U0⟩
    rw[if_neg c10]at H
    have ai:(a0==66)=false:=beq_eq_false_iff_ne.mpr c10
    have aj:(a0 != 66)=true:=bne_iff_ne.mpr c10
    have H':=Aside0.mk H
    clear H
    go_wp2
    go_meet
    case rel=>exact⟨_,((a0==67)),X0,H',⟨X4⟩,U0⟩
   case rest=>
    clear HC6
    try clear c1
    try clear p2
    try clear c3
    try clear aa
    try clear ae
    try clear c4
    try clear c5
    try clear ak
    try clear al
    try clear c7
    try clear ac
    try clear ag
    try clear c8
    try clear am
    try clear an
    try clear c9
    try clear ao
    try clear ap
    try clear c10
    try clear ai
    try clear aj
    try clear p2
    obtain⟨kq,af,rfl,HA,HJ5,⟨mc5,rfl⟩⟩:=hcut
    cases kq with
    | zero=>exact absurd HA.out (by simp[tribunalref09_kind.j1])
    | succ kj5=>
     have H:=HA.out
     clear HA
     simp only[tribunalref09_kind.j1]at H
     by_cases c11:af=true
     ·subst c11
      have H1:(some (1,1,1))=some (r1,r2,r3):=by rw[if_pos rfl]at H;exact H
      clear H
      have H:=H1
      clear H1
      simp only[Option.some.injEq,Prod.mk.injEq]at H
      obtain⟨rfl,rfl,rfl⟩:=H
      go_wp2
      go_ret3
      exact⟨X0,U0⟩
     replace c11:=Bool.eq_false_iff.mpr c11
     subst c11
     have H1:(if a0=43 then(some (1,1,0)) else(if a0=44 then(some (1,1,0)) else(if a0≥45 then(tribunalref09_kind.j2 kj5 a0 (decide (a0≤62))) else(tribunalref09_kind.j2 kj5 a0 false))))=some (r1,r2,r3):=by rw[if_neg (show ¬(false=true) by decide)]at H;exact H
     clear H
     have H:=H1
     clear H1
     by_cases c12:a0=43
     ·rw[if_pos c12]at H
      have ar:(a0==43)=true:=beq_iff_eq.mpr c12
      have au:(a0 != 43)=false:=bne_eq_false_iff_eq.mpr c12
      clear c12
      simp only[Option.some.injEq,Prod.mk.injEq]at H
      obtain⟨rfl,rfl,rfl⟩:=H
      go_wp2
      go_ret3
      exact⟨X0,U0⟩
     rw[if_neg c12]at H
     have ar:(a0==43)=false:=beq_eq_false_iff_ne.mpr c12
     have au:(a0 != 43)=true:=bne_iff_ne.mpr c12
     by_cases c13:a0=44
     ·rw[if_pos c13]at H
      have av:(a0==44)=true:=beq_iff_eq.mpr c13
      have aw:(a0 != 44)=false:=bne_eq_false_iff_eq.mpr c13
      clear c13
      simp only[Option.some.injEq,Prod.mk.injEq]at H
      obtain⟨rfl,rfl,rfl⟩:=H
      go_wp2
      go_ret3
      exact⟨X0,U0⟩
     rw[if_neg c13]at H
     have av:(a0==44)=false:=beq_eq_false_iff_ne.mpr c13
     have aw:(a0 != 44)=true:=bne_iff_ne.mpr c13
     have aq:=Aside0.mk H
     clear H
     go_upto_region 16 with(fail)
     go_cut [25] (fun v25 wc=>∃(kq:Nat) (ad:Bool),v25=.bool ad∧Aside0 (tribunalref09_kind.j2 kq a0 ad=some (r1,r2,r3))∧Aside0 (kq≤kj5)∧Drawn0 w wc)
     case first=>
      have H:=aq.out
      clear aq
      by_cases c15:a0≥45
      ·rw[if_pos c15]at H
       have ab:decide (45≤a0)=true:=decide_eq_true c15
       clear c15
       (first|rw[ab]|rw[ax]|(simp only[i64_w,i32_w];rw[ab])|skip)
       have H':=Aside0.mk H
       clear H
       go_wp2
       go_meet
       case rel=>exact⟨_,(decide (a0≤62)),X0,H',⟨by have:=HJ1.out;have:=HJ5.out;first|omega|exact Nat.le_refl _⟩,U0⟩
      rw[if_neg c15]at H
      have ab:decide (45≤a0)=false:=decide_eq_false c15
      clear c15
      (first|rw[ab]|rw[ax]|(simp only[i64_w,i32_w];rw[ab])|skip)
      have H':=Aside0.mk H
      clear H
      go_wp2
      go_meet
      case rel=>exact⟨_,(false),X0,H',⟨by have:=HJ1.out;have:=HJ5.out;first|omega|exact Nat.le_refl _⟩,U0⟩
     case rest=>
      clear aq
      try clear c1
      try clear p2
      try clear c3
      try clear aa
      try clear ae
      try clear c4
      try clear c5
      try clear ak
      try clear al
      try clear c7
      try clear ac
      try clear ag
      try clear c8
      try clear am
      try clear an
      try clear c9
      try clear ao
      try clear ap
      try clear c10
      try clear ai
      try clear aj
      try clear c11
      try clear c12
      try clear ar
      try clear au
      try clear c13
      try clear av
      try clear aw
      try clear c15
      try clear ab
      try clear ax
      try clear p2
      obtain⟨kq,ad,rfl,HA,aA,⟨aB,rfl⟩⟩:=hcut
      cases kq with
      | zero=>exact absurd HA.out (by simp[tribunalref09_kind.j2])
      | succ aC=>
       have H:=HA.out
       clear HA
       simp only[tribunalref09_kind.j2]at H
       by_cases c16:ad=true
       ·subst c16
        have H1:(some (1,2,0))=some (r1,r2,r3):=by rw[if_pos rfl]at H;exact H
        clear H
        have H:=H1
        clear H1
        simp only[Option.some.injEq,Prod.mk.injEq]at H
        obtain⟨rfl,rfl,rfl⟩:=H
        go_wp2
        go_ret3
        exact⟨X0,U0⟩
       replace c16:=Bool.eq_false_iff.mpr c16
       subst c16
       have H1:(if a0≥68 then(if a0≤75 then(some (2,2,0)) else(some (0,0,0))) else(some (0,0,0)))=some (r1,r2,r3):=by rw[if_neg (show ¬(false=true) by decide)]at H;exact H
       clear H
       have H:=H1
       clear H1
       by_cases c17:a0≥68
       ·rw[if_pos c17]at H
        have ay:decide (68≤a0)=true:=decide_eq_true c17
        clear c17
        by_cases c18:a0≤75
        ·rw[if_pos c18]at H
         have az:decide (a0≤75)=true:=decide_eq_true c18
         clear c18
         simp only[Option.some.injEq,Prod.mk.injEq]at H
         obtain⟨rfl,rfl,rfl⟩:=H
         go_wp2
         go_ret3
         exact⟨X0,U0⟩
        rw[if_neg c18]at H
        have az:decide (a0≤75)=false:=decide_eq_false c18
        clear c18
        simp only[Option.some.injEq,Prod.mk.injEq]at H
        obtain⟨rfl,rfl,rfl⟩:=H
        go_wp2
        go_ret3
        exact⟨X0,U0⟩
       rw[if_neg c17]at H
       have ay:decide (68≤a0)=false:=decide_eq_false c17
       clear c17
       simp only[Option.some.injEq,Prod.mk.injEq]at H
       obtain⟨rfl,rfl,rfl⟩:=H
       go_wp2
       go_ret3
       exact⟨X0,U0⟩
mutual
def tribunalref09_check.j0:Nat→Int→List Int→List (S28)→Int→Int→Int→Bool→Option (Int)
 | 0,_,_,_,_,_,_,_=>none
 | k+1,x0,x1,x2,x9,x10,x11,x35=>if x35=true then(some 53) else(tribunalref09_check.l0 k x0 x1 x2 x9 x10 x11 0)
def tribunalref09_check.l0:Nat→Int→List Int→List (S28)→Int→Int→Int→Int→Option (Int)
 | 0,_,_,_,_,_,_,_=>none
 | k+1,x0,x1,x2,x9,x10,x11,x12=>if x12<x11 then(if 0≤x12 then(if x12<(x1.length:Int) then(if(rd x1 x12)<0 then(some 53) else(if(rd x1 x12)>4096 then(some 53) else(tribunalref09_check.l0 k x0 x1 x2 x9 x10 x11 (wrap64 (x12+1))))) else(none)) else(none)) else(if x0=42 then(if 0<(x1.length:Int) then(if 1<(x1.length:Int) then(if(rd x1 0)<(rd x1 1) then(tribunalref09_check.j2 k x0 x1 x2 x9 x10 true) else(if x0=63 then(tribunalref09_check.j2 k x0 x1 x2 x9 x10 ((rd x1 0)==0)) else(tribunalref09_check.j2 k x0 x1 x2 x9 x10 false))) else(none)) else(none)) else(if x0=63 then(if 0<(x1.length:Int) then(tribunalref09_check.j2 k x0 x1 x2 x9 x10 ((rd x1 0)==0)) else(none)) else(tribunalref09_check.j2 k x0 x1 x2 x9 x10 false)))
def tribunalref09_check.j2:Nat→Int→List Int→List (S28)→Int→Int→Bool→Option (Int)
 | 0,_,_,_,_,_,_=>none
 | k+1,x0,x1,x2,x9,x10,x73=>if x73=true then(some 53) else(tribunalref09_check.l1 k x0 x1 x2 x9 x10 0)
def tribunalref09_check.l1:Nat→Int→List Int→List (S28)→Int→Int→Int→Option (Int)
 | 0,_,_,_,_,_,_=>none
 | k+1,x0,x1,x2,x9,x10,x13=>if x13<x10 then(if 0≤x13 then(if x13<(x2.length:Int) then((tribunalref09_Right.f k ((rd_T28 x2 x13).f0) ((rd_T28 x2 x13).f1)).bind fun t909=>(if t909=true then(tribunalref09_check.l1 k x0 x1 x2 x9 x10 (wrap64 (x13+1))) else(some 90))) else(none)) else(none)) else(if x10=2 then(if x0=41 then(tribunalref09_check.j4 k x0 x1 x2 x9 false) else(if 0<(x2.length:Int) then(if 1<(x2.length:Int) then(tribunalref09_check.j4 k x0 x1 x2 x9 (((rd_T28 x2 0).f0) != ((rd_T28 x2 1).f0))) else(none)) else(none))) else(tribunalref09_check.j4 k x0 x1 x2 x9 false))
def tribunalref09_check.j4:Nat→Int→List Int→List (S28)→Int→Bool→Option (Int)
 | 0,_,_,_,_,_=>none
 | k+1,x0,x1,x2,x9,x101=>if x101=true then(some 52) else(if x9=1 then(if 0<(x2.length:Int) then(if x0=42 then(if 0<(x1.length:Int) then(if(rd x1 0)≥((rd_T28 x2 0).f0) then(some 55) else((tribunalref09_Width.f x0 x1 x2).bind fun t914=>(if t914>4096 then(some 55) else(some 0)))) else(none)) else((tribunalref09_Width.f x0 x1 x2).bind fun t915=>(if t915>4096 then(some 55) else(some 0)))) else(none)) else(some 0))
end
def tribunalref09_check.f (k:Nat) (a0:Int) (l1:List Int) (l2:List (S28)) (a3:Int):Option (Int):=(tribunalref09_kind.f k a0).bind fun bt899=>(if bt899.1=a3 then(if(l2.length:Int)=bt899.2.1 then(if bt899.2.2>0 then(tribunalref09_check.j0 k a0 l1 l2 bt899.1 bt899.2.1 bt899.2.2 ((l1.length:Int) != bt899.2.2)) else(tribunalref09_check.j0 k a0 l1 l2 bt899.1 bt899.2.1 bt899.2.2 false)) else(some 51)) else(some 50))
theorem tribunalref09_check.calls (k:Nat) (a0:Int) (A1:Option Addr) (c1:Nat) (l1:List Int) (A2:Option Addr) (c2:Nat) (l2:List (S28)) (a3:Int) (r:Int) (w:World) (hr1:Kd.C (Kd.int .i64) w A1 l1.length l1) (hc1:l1.length≤c1) (hr2:Kd.C k28 w A2 l2.length l2) (hc2:l2.length≤c2) (h:tribunalref09_check.f k a0 l1 l2 a3=some r) :
  Calls Tryz.prog 35 #[.int .i64 a0,.slice A1 l1.length c1,.slice A2 l2.length c2,.int .i64 a3] w fun e w'=>e=.returned (.int .i64 r)∧Below w.heap.size w w':=by
 have di:=Tryz.underlying28
 have HR1:=Aside0.mk hr1
 have HC1:=Aside0.mk hc1
 clear hr1 hc1
 have HR2:=Aside0.mk hr2
 have HC2:=Aside0.mk hc2
 clear hr2 hc2
 have HB:=Aside0.mk (Below.refl w.heap.size w)
 have H:((tribunalref09_kind.f k a0).bind fun aI=>(if aI.1=a3 then(if(l2.length:Int)=aI.2.1 then(if aI.2.2>0 then(tribunalref09_check.j0 k a0 l1 l2 aI.1 aI.2.1 aI.2.2 ((l1.length:Int) != aI.2.2)) else(tribunalref09_check.j0 k a0 l1 l2 aI.1 aI.2.1 aI.2.2 false)) else(some 51)) else(some 50)))=some r:=h
 clear h
 replace H:=Option.bind_eq_some_iff.mp H
 obtain⟨⟨ah,ag,am⟩,A50,H⟩:=H
 replace H:(if ah=a3 then(if(l2.length:Int)=ag then(if am>0 then(tribunalref09_check.j0 k a0 l1 l2 ah ag am ((l1.length:Int) != am)) else(tribunalref09_check.j0 k a0 l1 l2 ah ag am false)) else(some 51)) else(some 50))=some r:=H
 have A5:=Aside0.mk A50
 clear A50
 by_cases c6:ah=a3
 ·rw [if_pos c6]at H
  have bh:(ah==a3)=true:=beq_iff_eq.mpr c6
  have bi:(ah != a3)=false:=bne_eq_false_iff_eq.mpr c6
  clear c6
  by_cases c7:(l2.length:Int)=ag
  ·rw [if_pos c7]at H
   have bj:((l2.length:Int)==ag)=true:=beq_iff_eq.mpr c7
   have bk:((l2.length:Int) != ag)=false:=bne_eq_false_iff_eq.mpr c7
   clear c7
   have HC8:=Aside0.mk H
   clear H
   go_enter Tryz.func35,Tryz.ntmps35
   go_upto_region 6 with(first|(go_at_call 73;(with_reducible refine(tribunalref09_kind.calls k a0 ah ag am _ A5.out).mono ?_);rintro e w' ⟨rfl,⟨nd,rfl⟩⟩;(try first|exact⟨rfl,_,World.drewN_drewN _ _ _⟩|exact⟨rfl,_,Eq.trans (World.drewN_drewN _ _ _) (congrArg (World.drewN _) (Nat.add_assoc _ _ _))⟩)))
   repeat (go_quiet (first|(go_at_call 73;(with_reducible refine(tribunalref09_kind.calls k a0 ah ag am _ A5.out).mono ?_);rintro e w' ⟨rfl,⟨nd,rfl⟩⟩;(try first|exact⟨rfl,_,World.drewN_drewN _ _ _⟩|exact⟨rfl,_,Eq.trans (World.drewN_drewN _ _ _) (congrArg (World.drewN _) (Nat.add_assoc _ _ _))⟩)));go_upto_region 6 with(first|(go_at_call 73;(with_reducible refine(tribunalref09_kind.calls k a0 ah ag am _ A5.out).mono ?_);rintro e w' ⟨rfl,⟨nd,rfl⟩⟩;(try first|exact⟨rfl,_,World.drewN_drewN _ _ _⟩|exact⟨rfl,_,Eq.trans (World.drewN_drewN _ _ _) (congrArg (World.drewN _) (Nat.add_assoc _ _ _))⟩))))
   (try simp only[Act.put,kss])
   go_cut [35] (fun v35 wc=>∃(kq:Nat) (br:Bool),v35=.bool br∧Aside0 (tribunalref09_check.j0 kq a0 l1 l2 ah ag am br=some r)∧Aside0 (kq≤k)∧Aside0 (Below w.heap.size w wc))
   case first=>
    have H:=HC8.out
    clear HC8
    by_cases c9:am>0
    ·rw[if_pos c9]at H
     have aO:decide (0<am)=true:=decide_eq_true c9
     clear c9
     (first|rw[aO]|rw[bl]|(simp only[i64_w,i32_w];rw[aO])|skip)
     have H':=Aside0.mk H
     clear H
     go_wp2
     repeat (go_quiet (fail);try go_wp2)
     go_meet
     case rel=>exact⟨_,(((l1.length:Int) != am)),X0,H',⟨F2⟩,⟨khu HB.out⟩⟩
    rw[if_neg c9]at H
    have aO:decide (0<am)=false:=decide_eq_false c9
    clear c9
    (first|rw[aO]|rw[bl]|(simp only[i64_w,i32_w];rw[aO])|skip)
    have H':=Aside0.mk H
    clear H
    go_wp2
    repeat (go_quiet (fail);try go_wp2)
    go_meet
    case rel=>exact⟨_,(false),X0,H',⟨F2⟩,⟨khu HB.out⟩⟩
   case rest=>
    clear HC8
    try clear c1
    try clear c2
    try clear p2
    try clear c3
    try clear c6
    try clear bh
    try clear bi
    try clear c7
    try clear bj
    try clear bk
    try clear c9
    try clear aO
    try clear bl
    obtain⟨kq,br,rfl,HA,HJ7,HB⟩:=hcut
    cases kq with
    | zero=>exact absurd HA.out (by simp[tribunalref09_check.j0])
    | succ kj7=>
     have H:=HA.out
     clear HA
     simp only[tribunalref09_check.j0]at H
     by_cases c10:br=true
     ·subst c10
      have H1:(some 53)=some r:=by rw[if_pos rfl]at H;exact H
      clear H
      have H:=H1
      clear H1
      obtain rfl:=Option.some.inj H
      go_wp2
      repeat (go_quiet (fail);try go_wp2)
      go_ret
      exact⟨J0,khu HB.out⟩
     replace c10:=Bool.eq_false_iff.mpr c10
     subst c10
     have H1:(tribunalref09_check.l0 kj7 a0 l1 l2 ah ag am 0)=some r:=by rw[if_neg (show ¬(false=true) by decide)]at H;exact H
     clear H
     have H:=H1
     clear H1
     have H':=Aside0.mk H
     clear H
     go_wp2
     repeat (go_quiet (fail);try go_wp2)
     go_loopg [12] kj7 (fun kq v12 w'=>∃(ac:Int),v12=.int .i64 ac∧Aside0 (tribunalref09_check.l0 kq a0 l1 l2 ah ag am ac=some r)∧Aside0 (kq≤kj7)∧Aside0 (Below w.heap.size w w'))
     case atStart=>exact⟨(0),X0,H',⟨Nat.le_refl _⟩,⟨khu HB.out⟩⟩
     case round=>
      clear H'
      try clear c1
      try clear c2
      try clear p2
      try clear c3
      try clear c6
      try clear bh
      try clear bi
      try clear c7
      try clear bj
      try clear bk
      try clear c9
      try clear aO
      try clear bl
      try clear c10
      try clear p2
      obtain⟨ac,rfl,HA,HK2,HB⟩:=hrel
      cases gk with
      | zero=>exact absurd HA.out (by simp[tribunalref09_check.l0])
      | succ k2=>
       have H:=HA.out
       clear HA
       simp only[tribunalref09_check.l0]at H
       by_cases c11:ac<am
       ·rw [if_pos c11]at H
        have bu:decide (ac<am)=true:=decide_eq_true c11
        clear c11
        by_cases c12:0≤ac
        ·rw[if_pos c12]at H
         have bP:decide (0≤ac)=true:=decide_eq_true c12
         clear c12
         by_cases c13:ac<(l1.length:Int)
         ·rw[if_pos c13]at H
          have bQ:decide (ac<(l1.length:Int))=true:=decide_eq_true c13
          clear c13
          by_cases c14:(rd l1 ac)<0
          ·rw[if_pos c14]at H
           have bv:decide ((rd l1 ac)<0)=true:=decide_eq_true c14
           clear c14
           obtain rfl:=Option.some.inj H
           have aw:0≤(ac:Int):=of_decide_eq_true ‹_›
           have ax:ac<(l1.length:Int):=of_decide_eq_true ‹_›
           obtain⟨bw,bH,aj⟩:=Kd.at_int HR1.out ac aw ax
           cases bH
           replace aj:=(HB.out.cell (World.block_lt_of_cell? w _ aj)).trans aj
           replace aw:=eq_true aw
           replace ax:=eq_true ax
           go_wp2
           repeat (go_quiet (fail);try go_wp2)
           go_ret
           exact⟨J0,khu HB.out⟩
          rw[if_neg c14]at H
          have bv:decide ((rd l1 ac)<0)=false:=decide_eq_false c14
          clear c14
          by_cases c15:(rd l1 ac)>4096
          ·rw[if_pos c15]at H
           have bx:decide (4096<(rd l1 ac))=true:=decide_eq_true c15
           clear c15
           obtain rfl:=Option.some.inj H
           have aw:0≤(ac:Int):=of_decide_eq_true ‹_›
           have ax:ac<(l1.length:Int):=of_decide_eq_true ‹_›
           obtain⟨bw,bH,aj⟩:=Kd.at_int HR1.out ac aw ax
           cases bH
           replace aj:=(HB.out.cell (World.block_lt_of_cell? w _ aj)).trans aj
           replace aw:=eq_true aw
           replace ax:=eq_true ax
           have aP:0≤(ac:Int):=of_decide_eq_true ‹_›
           have aQ:ac<(l1.length:Int):=of_decide_eq_true ‹_›
           obtain⟨bR,cc,ap⟩:=Kd.at_int HR1.out ac aP aQ
           obtain rfl:bw=bR:=(by injection cc)
           replace ap:=(HB.out.cell (World.block_lt_of_cell? w _ ap)).trans ap
           replace aP:=eq_true aP
           replace aQ:=eq_true aQ
           go_wp2
           repeat (go_quiet (fail);try go_wp2)
           go_ret
           exact⟨J0,khu HB.out⟩
          rw[if_neg c15]at H
          have bx:decide (4096<(rd l1 ac))=false:=decide_eq_false c15
          clear c15
          have H':=Aside0.mk H
          clear H
          have aw:0≤(ac:Int):=of_decide_eq_true ‹_›
          have ax:ac<(l1.length:Int):=of_decide_eq_true ‹_›
          obtain⟨bw,bH,aj⟩:=Kd.at_int HR1.out ac aw ax
          cases bH
          replace aj:=(HB.out.cell (World.block_lt_of_cell? w _ aj)).trans aj
          replace aw:=eq_true aw
          replace ax:=eq_true ax
          have aP:0≤(ac:Int):=of_decide_eq_true ‹_›
          have aQ:ac<(l1.length:Int):=of_decide_eq_true ‹_›
          obtain⟨bR,cc,ap⟩:=Kd.at_int HR1.out ac aP aQ
          obtain rfl:bw=bR:=(by injection cc)
          replace ap:=(HB.out.cell (World.block_lt_of_cell? w _ ap)).trans ap
          replace aP:=eq_true aP
          replace aQ:=eq_true aQ
          go_wp2
          repeat (go_quiet (fail);try go_wp2)
          go_roundg k2
          case measure=>have:=HJ7.out;have:=HK2.out;omega
          case rel=>exact⟨(wrap64 (ac+1)),X0,H',⟨by have:=HJ7.out;have:=HK2.out;omega⟩,⟨khu HB.out⟩⟩
         rw[if_neg c13]at H
         exact absurd H B0
        rw[if_neg c12]at H
        exact absurd H B0
       rw[if_neg c11]at H
       have bu:decide (ac<am)=false:=decide_eq_false c11
       clear c11
       have cd:=Aside0.mk H
       clear H
       go_upto_region 13 with(fail)
       repeat (go_quiet (fail);go_upto_region 13 with(fail))
       go_cut [73] (fun v73 wc=>∃(kq:Nat) (bd:Bool),v73=.bool bd∧Aside0 (tribunalref09_check.j2 kq a0 l1 l2 ah ag bd=some r)∧Aside0 (kq≤k2)∧Aside0 (Below w.heap.size w wc))
       case first=>
        have H:=cd.out
        clear cd
        by_cases c17:a0=42
        ·rw [if_pos c17]at H
         have aN:(a0==42)=true:=beq_iff_eq.mpr c17
         have aW:(a0 != 42)=false:=bne_eq_false_iff_eq.mpr c17
         clear c17
         (first|rw[aN]|rw[aW]|(simp only[i64_w,i32_w];rw[aN])|skip)
         by_cases c18:0<(l1.length:Int)
         ·rw[if_pos c18]at H
          have bS:decide (0<(l1.length:Int))=true:=decide_eq_true c18
          have bT:decide (0<l1.length)=true:=decide_eq_true Y0
          clear c18
          by_cases c19:1<(l1.length:Int)
          ·rw[if_pos c19]at H
           have bU:decide (1<(l1.length:Int))=true:=decide_eq_true c19
           have bV:decide (1<l1.length)=true:=decide_eq_true Y0
           clear c19
           by_cases c20:(rd l1 0)<(rd l1 1)
           ·rw[if_pos c20]at H
            have bz:decide ((rd l1 0)<(rd l1 1))=true:=decide_eq_true c20
            clear c20
            have H':=Aside0.mk H
            clear H
            have ay:0≤(0:Int):=Y0
            have az:0<(l1.length:Int):=of_decide_eq_true ‹_›
            obtain⟨aX,bI,ae⟩:=Kd.at_int HR1.out 0 ay az
            cases bI
            have ch:(0<l1.length)=True:=eq_true Y0
            (try rw[show((0:Int)).toNat=0 from rfl]at ae)
            (try rw[Addr.add_zero']at ae)
            replace ae:=(HB.out.cell (World.block_lt_of_cell? w _ ae)).trans ae
            replace ay:=eq_true ay
            replace az:=eq_true az
            have aA:0≤(1:Int):=Y0
            have aB:1<(l1.length:Int):=of_decide_eq_true ‹_›
            obtain⟨be,bJ,af⟩:=Kd.at_int HR1.out 1 aA aB
            obtain rfl:aX=be:=(by injection bJ)
            (try simp only[show(1:Int).toNat=1 from rfl,Nat.reduceMul,Nat.reduceEqDiff,Go.Addr.add,↓reduceIte]at af)
            have ci:(1<l1.length)=True:=eq_true Y0
            (try rw[show((1:Int)).toNat=1 from rfl]at af)
            replace af:=(HB.out.cell (World.block_lt_of_cell? w _ af)).trans af
            replace aA:=eq_true aA
            replace aB:=eq_true aB
            go_wp2
            repeat (go_quiet (fail);try go_wp2)
            go_meet
            case rel=>exact⟨_,(true),X0,H',⟨F3⟩,⟨khu HB.out⟩⟩
           rw[if_neg c20]at H
           have bz:decide ((rd l1 0)<(rd l1 1))=false:=decide_eq_false c20
           clear c20
           by_cases c21:a0=63
           ·rw[if_pos c21]at H
            have bA:(a0==63)=true:=beq_iff_eq.mpr c21
            have bB:(a0 != 63)=false:=bne_eq_false_iff_eq.mpr c21
            clear c21
            have H':=Aside0.mk H
            clear H
            have ay:0≤(0:Int):=Y0
            have az:0<(l1.length:Int):=of_decide_eq_true ‹_›
            obtain⟨aX,bI,ae⟩:=Kd.at_int HR1.out 0 ay az
            cases bI
            have ch:(0<l1.length)=True:=eq_true Y0
            (try rw[show((0:Int)).toNat=0 from rfl]at ae)
            (try rw[Addr.add_zero']at ae)
            replace ae:=(HB.out.cell (World.block_lt_of_cell? w _ ae)).trans ae
            replace ay:=eq_true ay
            replace az:=eq_true az
            have aA:0≤(1:Int):=Y0
            have aB:1<(l1.length:Int):=of_decide_eq_true ‹_›
            obtain⟨be,bJ,af⟩:=Kd.at_int HR1.out 1 aA aB
            obtain rfl:aX=be:=(by injection bJ)
            (try simp only[show(1:Int).toNat=1 from rfl,Nat.reduceMul,Nat.reduceEqDiff,Go.Addr.add,↓reduceIte]at af)
            have ci:(1<l1.length)=True:=eq_true Y0
            (try rw[show((1:Int)).toNat=1 from rfl]at af)
            replace af:=(HB.out.cell (World.block_lt_of_cell? w _ af)).trans af
            replace aA:=eq_true aA
            replace aB:=eq_true aB
            have bn:0≤(0:Int):=Y0
            have bo:0<(l1.length:Int):=of_decide_eq_true ‹_›
            obtain⟨cv,cM,aq⟩:=Kd.at_int HR1.out 0 bn bo
            obtain rfl:aX=cv:=(by injection cM)
            have cZ:(0<l1.length)=True:=eq_true Y0
            (try rw[show((0:Int)).toNat=0 from rfl]at aq)
            (try rw[Addr.add_zero']at aq)
            replace aq:=(HB.out.cell (World.block_lt_of_cell? w _ aq)).trans aq
            replace bn:=eq_true bn
            replace bo:=eq_true bo
            go_wp2
            repeat (go_quiet (fail);try go_wp2)
            go_meet
            case rel=>exact⟨_,(((rd l1 0)==0)),X0,H',⟨F3⟩,⟨khu HB.out⟩⟩
           rw[if_neg c21]at H
           have bA:(a0==63)=false:=beq_eq_false_iff_ne.mpr c21
           have bB:(a0 != 63)=true:=bne_iff_ne.mpr c21
           have H':=Aside0.mk H
           clear H
           have ay:0≤(0:Int):=Y0
           have az:0<(l1.length:Int):=of_decide_eq_true ‹_›
           obtain⟨aX,bI,ae⟩:=Kd.at_int HR1.out 0 ay az
           cases bI
           have ch:(0<l1.length)=True:=eq_true Y0
           (try rw[show((0:Int)).toNat=0 from rfl]at ae)
           (try rw[Addr.add_zero']at ae)
           replace ae:=(HB.out.cell (World.block_lt_of_cell? w _ ae)).trans ae
           replace ay:=eq_true ay
           replace az:=eq_true az
           have aA:0≤(1:Int):=Y0
           have aB:1<(l1.length:Int):=of_decide_eq_true ‹_›
           obtain⟨be,bJ,af⟩:=Kd.at_int HR1.out 1 aA aB
           obtain rfl:aX=be:=(by injection bJ)
           (try simp only[show(1:Int).toNat=1 from rfl,Nat.reduceMul,Nat.reduceEqDiff,Go.Addr.add,↓reduceIte]at af)
           have ci:(1<l1.length)=True:=eq_true Y0
           (try rw[show((1:Int)).toNat=1 from rfl]at af)
           replace af:=(HB.out.cell (World.block_lt_of_cell? w _ af)).trans af
           replace aA:=eq_true aA
           replace aB:=eq_true aB
           go_wp2
           repeat (go_quiet (fail);try go_wp2)
           go_meet
           case rel=>exact⟨_,(false),X0,H',⟨F3⟩,⟨khu HB.out⟩⟩
          rw[if_neg c19]at H
          exact absurd H B0
         rw[if_neg c18]at H
         exact absurd H B0
        rw[if_neg c17]at H
        have aN:(a0==42)=false:=beq_eq_false_iff_ne.mpr c17
        have aW:(a0 != 42)=true:=bne_iff_ne.mpr c17
        (first|rw[aN]|rw[aW]|(simp only[i64_w,i32_w];rw[aN])|skip)
        by_cases c22:a0=63
        ·rw[if_pos c22]at H
         have bC:(a0==63)=true:=beq_iff_eq.mpr c22
         have bD:(a0 != 63)=false:=bne_eq_false_iff_eq.mpr c22
         clear c22
         by_cases c23:0<(l1.length:Int)
         ·rw[if_pos c23]at H
          have bW:decide (0<(l1.length:Int))=true:=decide_eq_true c23
          have bX:decide (0<l1.length)=true:=decide_eq_true Y0
          clear c23
          have H':=Aside0.mk H
          clear H
          have bp:0≤(0:Int):=Y0
          have bq:0<(l1.length:Int):=of_decide_eq_true ‹_›
          obtain⟨da,cN,ar⟩:=Kd.at_int HR1.out 0 bp bq
          cases cN
          have db:(0<l1.length)=True:=eq_true Y0
          (try rw[show((0:Int)).toNat=0 from rfl]at ar)
          (try rw[Addr.add_zero']at ar)
          replace ar:=(HB.out.cell (World.block_lt_of_cell? w _ ar)).trans ar
          replace bp:=eq_true bp
          replace bq:=eq_true bq
          go_wp2
          repeat (go_quiet (fail);try go_wp2)
          go_meet
          case rel=>exact⟨_,(((rd l1 0)==0)),X0,H',⟨F3⟩,⟨khu HB.out⟩⟩
         rw[if_neg c23]at H
         exact absurd H B0
        rw[if_neg c22]at H
        have bC:(a0==63)=false:=beq_eq_false_iff_ne.mpr c22
        have bD:(a0 != 63)=true:=bne_iff_ne.mpr c22
        have H':=Aside0.mk H
        clear H
        go_wp2
        repeat (go_quiet (fail);try go_wp2)
        go_meet
        case rel=>exact⟨_,(false),X0,H',⟨F3⟩,⟨khu HB.out⟩⟩
       case rest=>
        clear cd
        try clear c1
        try clear c2
        try clear p2
        try clear c3
        try clear c6
        try clear bh
        try clear bi
        try clear p6
        try clear c7
        try clear bj
        try clear bk
        try clear c9
        try clear aO
        try clear bl
        try clear p9
        try clear q9
        try clear hx9
        try clear qi9
        try clear c10
        try clear c11
        try clear bu
        try clear c12
        try clear bP
        try clear c13
        try clear bQ
        try clear c14
        try clear bv
        try clear c15
        try clear bx
        try clear c17
        try clear aN
        try clear aW
        try clear c18
        try clear bS
        try clear bT
        try clear c19
        try clear bU
        try clear bV
        try clear c20
        try clear bz
        try clear c21
        try clear bA
        try clear bB
        try clear c22
        try clear bC
        try clear bD
        try clear c23
        try clear bW
        try clear bX
        try clear aj
        try clear ap
        try clear ae
        try clear af
        try clear aq
        try clear ar
        try clear p2
        try clear aw
        try clear aP
        try clear ay
        try clear aA
        try clear bn
        try clear bp
        try clear ax
        try clear aQ
        try clear az
        try clear aB
        try clear bo
        try clear bq
        obtain⟨kq,bd,rfl,HA,HJ15,HB⟩:=hcut
        cases kq with
        | zero=>exact absurd HA.out (by simp[tribunalref09_check.j2])
        | succ ce=>
         have H:=HA.out
         clear HA
         simp only[tribunalref09_check.j2]at H
         by_cases c24:bd=true
         ·subst c24
          have H1:(some 53)=some r:=by rw[if_pos rfl]at H;exact H
          clear H
          have H:=H1
          clear H1
          obtain rfl:=Option.some.inj H
          go_wp2
          repeat (go_quiet (fail);try go_wp2)
          go_ret
          exact⟨J0,khu HB.out⟩
         replace c24:=Bool.eq_false_iff.mpr c24
         subst c24
         have H1:(tribunalref09_check.l1 ce a0 l1 l2 ah ag 0)=some r:=by rw[if_neg (show ¬(false=true) by decide)]at H;exact H
         clear H
         have H:=H1
         clear H1
         have H':=Aside0.mk H
         clear H
         go_wp2
         repeat (go_quiet (fail);try go_wp2)
         go_loopg [13] ce (fun kq v13 w'=>∃(ad:Int),v13=.int .i64 ad∧Aside0 (tribunalref09_check.l1 kq a0 l1 l2 ah ag ad=some r)∧Aside0 (kq≤ce)∧Aside0 (Below w.heap.size w w'))
         case atStart=>exact⟨(0),X0,H',⟨Nat.le_refl _⟩,⟨khu HB.out⟩⟩
         case round=>
          clear H'
          try clear c1
          try clear c2
          try clear p2
          try clear c3
          try clear c6
          try clear bh
          try clear bi
          try clear p6
          try clear c7
          try clear bj
          try clear bk
          try clear c9
          try clear aO
          try clear bl
          try clear p9
          try clear q9
          try clear hx9
          try clear qi9
          try clear c10
          try clear c11
          try clear bu
          try clear c12
          try clear bP
          try clear c13
          try clear bQ
          try clear c14
          try clear bv
          try clear c15
          try clear bx
          try clear c17
          try clear aN
          try clear aW
          try clear c18
          try clear bS
          try clear bT
          try clear c19
          try clear bU
          try clear bV
          try clear c20
          try clear bz
          try clear c21
          try clear bA
          try clear bB
          try clear c22
          try clear bC
          try clear bD
          try clear c23
          try clear bW
          try clear bX
          try clear c24
          try clear aj
          try clear ap
          try clear ae
          try clear af
          try clear aq
          try clear ar
          try clear p2
          try clear p6
          try clear p9
          try clear aw
          try clear aP
          try clear ay
          try clear aA
          try clear bn
          try clear bp
          try clear q9
          try clear ax
          try clear aQ
          try clear az
          try clear aB
          try clear bo
          try clear bq
          obtain⟨ad,rfl,HA,HK4,HB⟩:=hrel
          cases gk with
          | zero=>exact absurd HA.out (by simp[tribunalref09_check.l1])
          | succ k4=>
           have H:=HA.out
           clear HA
           simp only[tribunalref09_check.l1]at H
           by_cases c25:ad<ag
           ·rw [if_pos c25]at H
            have cj:decide (ad<ag)=true:=decide_eq_true c25
            clear c25
            by_cases c26:0≤ad
            ·rw[if_pos c26]at H
             have cw:decide (0≤ad)=true:=decide_eq_true c26
             clear c26
             by_cases c27:ad<(l2.length:Int)
             ·rw[if_pos c27]at H
              have cx:decide (ad<(l2.length:Int))=true:=decide_eq_true c27
              clear c27
              replace H:=Option.bind_eq_some_iff.mp H
              obtain⟨co,cp,H⟩:=H
              replace H:(if co=true then(tribunalref09_check.l1 k4 a0 l1 l2 ah ag (wrap64 (ad+1))) else(some 90))=some r:=H
              have A28:=Aside0.mk cp
              clear cp
              by_cases c29:co=true
              ·subst c29
               have H1:(tribunalref09_check.l1 k4 a0 l1 l2 ah ag (wrap64 (ad+1)))=some r:=by rw[if_pos rfl]at H;exact H
               clear H
               have H:=H1
               clear H1
               have H':=Aside0.mk H
               clear H
               have aU:0≤(ad:Int):=of_decide_eq_true ‹_›
               have aV:ad<(l2.length:Int):=of_decide_eq_true ‹_›
               obtain⟨cy,cq,cr,cf,au,av,aR,aS⟩:=at_T28 HR2.out ad aU aV
               cases cf
               replace au:=(HB.out.cell (World.block_lt_of_cell? w _ au)).trans au
               replace av:=(HB.out.cell (World.block_lt_of_cell? w _ av)).trans av
               have aC:=Aside0.mk aS
               have aD:=Aside0.mk aR
               clear aS aR
               replace aU:=eq_true aU
               replace aV:=eq_true aV
               go_wp2_with (first|(go_at_call 30;(with_reducible refine(tribunalref09_Right.calls k4 ((rd_T28 l2 ad).f0) _ _ ((rd_T28 l2 ad).f1) true _ ?side1 ?side2 A28.out).mono ?_);(case side1=>repeat (first|exact(Kd.C_below aC.out HB.out)|(with_reducible refine Kd.C_alloc ?_ _)|(with_reducible refine Kd.C_drewN ?_ _)|(with_reducible refine Kd.C_drew ?_)));(case side2=>exact aD.out);rintro e w30 ⟨rfl,hb⟩;replace HB:=kbs HB hb;(try clear hb);(try clear hb2);(try clear hk);(try clear hi)))
               repeat (go_quiet (first|(go_at_call 30;(with_reducible refine(tribunalref09_Right.calls k4 ((rd_T28 l2 ad).f0) _ _ ((rd_T28 l2 ad).f1) true _ ?side1 ?side2 A28.out).mono ?_);(case side1=>repeat (first|exact(Kd.C_below aC.out HB.out)|(with_reducible refine Kd.C_alloc ?_ _)|(with_reducible refine Kd.C_drewN ?_ _)|(with_reducible refine Kd.C_drew ?_)));(case side2=>exact aD.out);rintro e w30 ⟨rfl,hb⟩;replace HB:=kbs HB hb;(try clear hb);(try clear hb2);(try clear hk);(try clear hi)));try go_wp2_with (first|(go_at_call 30;(with_reducible refine(tribunalref09_Right.calls k4 ((rd_T28 l2 ad).f0) _ _ ((rd_T28 l2 ad).f1) true _ ?side1 ?side2 A28.out).mono ?_);(case side1=>repeat (first|exact(Kd.C_below aC.out HB.out)|(with_reducible refine Kd.C_alloc ?_ _)|(with_reducible refine Kd.C_drewN ?_ _)|(with_reducible refine Kd.C_drew ?_)));(case side2=>exact aD.out);rintro e w30 ⟨rfl,hb⟩;replace HB:=kbs HB hb;(try clear hb);(try clear hb2);(try clear hk);(try clear hi))))
               go_roundg k4
               case measure=>have:=HJ7.out;have:=HK2.out;have:=HJ15.out;have:=HK4.out;omega
               case rel=>exact⟨(wrap64 (ad+1)),X0,H',⟨by have:=HJ7.out;have:=HK2.out;have:=HJ15.out;have:=HK4.out;omega⟩,⟨khu HB.out⟩⟩
              replace c29:=Bool.eq_false_iff.mpr c29
              subst c29
              have H1:(some 90)=some r:=by rw[if_neg (show ¬(false=true) by decide)]at H;exact H
              clear H
              have H:=H1
              clear H1
              obtain rfl:=Option.some.inj H
              have aU:0≤(ad:Int):=of_decide_eq_true ‹_›
              have aV:ad<(l2.length:Int):=of_decide_eq_true ‹_›
              obtain⟨cy,cq,cr,cf,au,av,aR,aS⟩:=at_T28 HR2.out ad aU aV
              cases cf
              replace au:=(HB.out.cell (World.block_lt_of_cell? w _ au)).trans au
              replace av:=(HB.out.cell (World.block_lt_of_cell? w _ av)).trans av
              have aC:=Aside0.mk aS
              have aD:=Aside0.mk aR
              clear aS aR
              replace aU:=eq_true aU
              replace aV:=eq_true aV
              go_wp2_with (first|(go_at_call 30;(with_reducible refine(tribunalref09_Right.calls k4 ((rd_T28 l2 ad).f0) _ _ ((rd_T28 l2 ad).f1) false _ ?side1 ?side2 A28.out).mono ?_);(case side1=>repeat (first|exact(Kd.C_below aC.out HB.out)|(with_reducible refine Kd.C_alloc ?_ _)|(with_reducible refine Kd.C_drewN ?_ _)|(with_reducible refine Kd.C_drew ?_)));(case side2=>exact aD.out);rintro e w31 ⟨rfl,hb⟩;replace HB:=kbs HB hb;(try clear hb);(try clear hb2);(try clear hk);(try clear hi)))
              repeat (go_quiet (first|(go_at_call 30;(with_reducible refine(tribunalref09_Right.calls k4 ((rd_T28 l2 ad).f0) _ _ ((rd_T28 l2 ad).f1) false _ ?side1 ?side2 A28.out).mono ?_);(case side1=>repeat (first|exact(Kd.C_below aC.out HB.out)|(with_reducible refine Kd.C_alloc ?_ _)|(with_reducible refine Kd.C_drewN ?_ _)|(with_reducible refine Kd.C_drew ?_)));(case side2=>exact aD.out);rintro e w31 ⟨rfl,hb⟩;replace HB:=kbs HB hb;(try clear hb);(try clear hb2);(try clear hk);(try clear hi)));try go_wp2_with (first|(go_at_call 30;(with_reducible refine(tribunalref09_Right.calls k4 ((rd_T28 l2 ad).f0) _ _ ((rd_T28 l2 ad).f1) false _ ?side1 ?side2 A28.out).mono ?_);(case side1=>repeat (first|exact(Kd.C_below aC.out HB.out)|(with_reducible refine Kd.C_alloc ?_ _)|(with_reducible refine Kd.C_drewN ?_ _)|(with_reducible refine Kd.C_drew ?_)));(case side2=>exact aD.out);rintro e w31 ⟨rfl,hb⟩;replace HB:=kbs HB hb;(try clear hb);(try clear hb2);(try clear hk);(try clear hi))))
              go_ret
              exact⟨J0,khu HB.out⟩
             rw[if_neg c27]at H
             exact absurd H B0
            rw[if_neg c26]at H
            exact absurd H B0
           rw[if_neg c25]at H
           have cj:decide (ad<ag)=false:=decide_eq_false c25
           clear c25
           have cg:=Aside0.mk H
           clear H
           go_upto_region 20 with(fail)
           repeat (go_quiet (fail);go_upto_region 20 with(fail))
           go_cut [101] (fun cO wc=>∃(kq:Nat) (aY:Bool),cO=.bool aY∧Aside0 (tribunalref09_check.j4 kq a0 l1 l2 ah aY=some r)∧Aside0 (kq≤k4)∧Aside0 (Below w.heap.size w wc))
           case first=>
            have H:=cg.out
            clear cg
            by_cases c33:ag=2
            ·rw[if_pos c33]at H
             have aZ:(ag==2)=true:=beq_iff_eq.mpr c33
             have bE:(ag != 2)=false:=bne_eq_false_iff_eq.mpr c33
             clear c33
             (first|rw[aZ]|rw[bE]|(simp only[i64_w,i32_w];rw[aZ])|skip)
             by_cases c34:a0=41
             ·rw[if_pos c34]at H
              have ck:(a0==41)=true:=beq_iff_eq.mpr c34
              have cl:(a0 != 41)=false:=bne_eq_false_iff_eq.mpr c34
              clear c34
              have H':=Aside0.mk H
              clear H
              go_wp2
              repeat (go_quiet (fail);try go_wp2)
              go_meet
              case rel=>exact⟨_,(false),X0,H',⟨U4⟩,⟨khu HB.out⟩⟩
             rw[if_neg c34]at H
             have ck:(a0==41)=false:=beq_eq_false_iff_ne.mpr c34
             have cl:(a0 != 41)=true:=bne_iff_ne.mpr c34
             by_cases c35:0<(l2.length:Int)
             ·rw[if_pos c35]at H
              have cz:decide (0<(l2.length:Int))=true:=decide_eq_true c35
              have cA:decide (0<l2.length)=true:=decide_eq_true Y0
              clear c35
              by_cases c36:1<(l2.length:Int)
              ·rw[if_pos c36]at H
               have cB:decide (1<(l2.length:Int))=true:=decide_eq_true c36
               have cC:decide (1<l2.length)=true:=decide_eq_true Y0
               clear c36
               have H':=Aside0.mk H
               clear H
               have bY:0≤(0:Int):=Y0
               have bZ:0<(l2.length:Int):=of_decide_eq_true ‹_›
               obtain⟨cD,cV,cW,cP,aE,aF,bL,bM⟩:=at_T28 HR2.out 0 bY bZ
               cases cP
               have dc:(0<l2.length)=True:=eq_true Y0
               (try rw[show((0:Int)).toNat=0 from rfl]at aE)
               (try rw[show 0*2=0 from rfl]at aE)
               (try rw[Addr.add_zero']at aE)
               (try rw[show((0:Int)).toNat=0 from rfl]at aF)
               (try rw[show 0*2=0 from rfl]at aF)
               (try rw[Addr.add_zero']at aF)
               replace aE:=(HB.out.cell (World.block_lt_of_cell? w _ aE)).trans aE
               replace aF:=(HB.out.cell (World.block_lt_of_cell? w _ aF)).trans aF
               have cR:=Aside0.mk bM
               have cS:=Aside0.mk bL
               clear bM bL
               replace bY:=eq_true bY
               replace bZ:=eq_true bZ
               have ca:0≤(1:Int):=Y0
               have cb:1<(l2.length:Int):=of_decide_eq_true ‹_›
               obtain⟨cE,cX,cY,cQ,aG,aH,bN,bO⟩:=at_T28 HR2.out 1 ca cb
               obtain rfl:cD=cE:=(by injection cQ)
               (try simp only[show(1:Int).toNat=1 from rfl,Nat.reduceMul,Nat.reduceEqDiff,Go.Addr.add,↓reduceIte]at aG)
               (try simp only[show(1:Int).toNat=1 from rfl,Nat.reduceMul,Nat.reduceEqDiff,Go.Addr.add,↓reduceIte]at aH)
               have dd:(1<l2.length)=True:=eq_true Y0
               (try rw[show((1:Int)).toNat=1 from rfl]at aG)
               (try rw[show 1*2=2 from rfl]at aG)
               (try rw[show((1:Int)).toNat=1 from rfl]at aH)
               (try rw[show 1*2=2 from rfl]at aH)
               replace aG:=(HB.out.cell (World.block_lt_of_cell? w _ aG)).trans aG
               replace aH:=(HB.out.cell (World.block_lt_of_cell? w _ aH)).trans aH
               have cT:=Aside0.mk bO
               have cU:=Aside0.mk bN
               clear bO bN
               replace ca:=eq_true ca
               replace cb:=eq_true cb
               go_wp2
               repeat (go_quiet (fail);try go_wp2)
               go_meet
               case rel=>exact⟨_,((((rd_T28 l2 0).f0) != ((rd_T28 l2 1).f0))),X0,H',⟨U4⟩,⟨khu HB.out⟩⟩
              rw[if_neg c36]at H
              exact absurd H B0
             rw[if_neg c35]at H
             exact absurd H B0
            rw[if_neg c33]at H
            have aZ:(ag==2)=false:=beq_eq_false_iff_ne.mpr c33
            have bE:(ag != 2)=true:=bne_iff_ne.mpr c33
            (first|rw[aZ]|rw[bE]|(simp only[i64_w,i32_w];rw[aZ])|skip)
            have H':=Aside0.mk H
            clear H
            go_wp2
            repeat (go_quiet (fail);try go_wp2)
            go_meet
            case rel=>exact⟨_,(false),X0,H',⟨U4⟩,⟨khu HB.out⟩⟩
           case rest=>
            clear cg
            try clear c1
            try clear c2
            try clear p2
            try clear c3
            try clear c6
            try clear bh
            try clear bi
            try clear p6
            try clear c7
            try clear bj
            try clear bk
            try clear c9
            try clear aO
            try clear bl
            try clear p9
            try clear q9
            try clear hx9
            try clear qi9
            try clear c10
            try clear c11
            try clear bu
            try clear c12
            try clear bP
            try clear c13
            try clear bQ
            try clear c14
            try clear bv
            try clear c15
            try clear bx
            try clear c17
            try clear aN
            try clear aW
            try clear c18
            try clear bS
            try clear bT
            try clear c19
            try clear bU
            try clear bV
            try clear c20
            try clear bz
            try clear c21
            try clear bA
            try clear bB
            try clear c22
            try clear bC
            try clear bD
            try clear c23
            try clear bW
            try clear bX
            try clear c24
            try clear c25
            try clear cj
            try clear c26
            try clear cw
            try clear c27
            try clear cx
            try clear c29
            try clear c33
            try clear aZ
            try clear bE
            try clear c34
            try clear ck
            try clear cl
            try clear c35
            try clear cz
            try clear cA
            try clear c36
            try clear cB
            try clear cC
            try clear aj
            try clear ap
            try clear ae
            try clear af
            try clear aq
            try clear ar
            try clear au
            try clear av
            try clear aE
            try clear aF
            try clear aG
            try clear aH
            try clear p2
            try clear p6
            try clear p9
            try clear aw
            try clear aP
            try clear ay
            try clear aA
            try clear bn
            try clear bp
            try clear aU
            try clear bY
            try clear ca
            try clear q9
            try clear ax
            try clear aQ
            try clear az
            try clear aB
            try clear bo
            try clear bq
            try clear aV
            try clear bZ
            try clear cb
            obtain⟨kq,aY,rfl,HA,dj,HB⟩:=hcut
            cases kq with
            | zero=>exact absurd HA.out (by simp[tribunalref09_check.j4])
            | succ dk=>
             have H:=HA.out
             clear HA
             simp only[tribunalref09_check.j4]at H
             by_cases c37:aY=true
             ·subst c37
              have H1:(some 52)=some r:=by rw[if_pos rfl]at H;exact H
              clear H
              have H:=H1
              clear H1
              obtain rfl:=Option.some.inj H
              go_wp2
              repeat (go_quiet (fail);try go_wp2)
              go_ret
              exact⟨J0,khu HB.out⟩
             replace c37:=Bool.eq_false_iff.mpr c37
             subst c37
             have H1:(if ah=1 then(if 0<(l2.length:Int) then(if a0=42 then(if 0<(l1.length:Int) then(if(rd l1 0)≥((rd_T28 l2 0).f0) then(some 55) else((tribunalref09_Width.f a0 l1 l2).bind fun aJ=>(if aJ>4096 then(some 55) else(some 0)))) else(none)) else((tribunalref09_Width.f a0 l1 l2).bind fun aK=>(if aK>4096 then(some 55) else(some 0)))) else(none)) else(some 0))=some r:=by rw[if_neg (show ¬(false=true) by decide)]at H;exact H
             clear H
             have H:=H1
             clear H1
             by_cases c38:ah=1
             ·rw [if_pos c38]at H
              have cF:(ah==1)=true:=beq_iff_eq.mpr c38
              have cG:(ah != 1)=false:=bne_eq_false_iff_eq.mpr c38
              clear c38
              by_cases c39:0<(l2.length:Int)
              ·rw [if_pos c39]at H
               have de:decide (0<(l2.length:Int))=true:=decide_eq_true c39
               have df:decide (0<l2.length)=true:=decide_eq_true Y0
               clear c39
               by_cases c40:a0=42
               ·rw[if_pos c40]at H
                have cH:(a0==42)=true:=beq_iff_eq.mpr c40
                have cI:(a0 != 42)=false:=bne_eq_false_iff_eq.mpr c40
                clear c40
                by_cases c41:0<(l1.length:Int)
                ·rw[if_pos c41]at H
                 have dg:decide (0<(l1.length:Int))=true:=decide_eq_true c41
                 have dh:decide (0<l1.length)=true:=decide_eq_true Y0
                 clear c41
                 by_cases c42:(rd l1 0)≥((rd_T28 l2 0).f0)
                 ·rw[if_pos c42]at H
                  have cJ:decide (((rd_T28 l2 0).f0)≤(rd l1 0))=true:=decide_eq_true c42
                  clear c42
                  obtain rfl:=Option.some.inj H
                  have an:0≤(0:Int):=Y0
                  have ao:0<(l2.length:Int):=of_decide_eq_true ‹_›
                  obtain⟨bF,bf,bg,aT,aa,ab,ak,al⟩:=at_T28 HR2.out 0 an ao
                  cases aT
                  have bG:(0<l2.length)=True:=eq_true Y0
                  (try rw[show((0:Int)).toNat=0 from rfl]at aa)
                  (try rw[show 0*2=0 from rfl]at aa)
                  (try rw[Addr.add_zero']at aa)
                  (try rw[show((0:Int)).toNat=0 from rfl]at ab)
                  (try rw[show 0*2=0 from rfl]at ab)
                  (try rw[Addr.add_zero']at ab)
                  replace aa:=(HB.out.cell (World.block_lt_of_cell? w _ aa)).trans aa
                  replace ab:=(HB.out.cell (World.block_lt_of_cell? w _ ab)).trans ab
                  have bb:=Aside0.mk al
                  have bc:=Aside0.mk ak
                  clear al ak
                  replace an:=eq_true an
                  replace ao:=eq_true ao
                  have aL:0≤(0:Int):=Y0
                  have aM:0<(l1.length:Int):=of_decide_eq_true ‹_›
                  obtain⟨cm,bK,ai⟩:=Kd.at_int HR1.out 0 aL aM
                  cases bK
                  have cn:(0<l1.length)=True:=eq_true Y0
                  (try rw[show((0:Int)).toNat=0 from rfl]at ai)
                  (try rw[Addr.add_zero']at ai)
                  replace ai:=(HB.out.cell (World.block_lt_of_cell? w _ ai)).trans ai
                  replace aL:=eq_true aL
                  replace aM:=eq_true aM
                  go_wp2
                  repeat (go_quiet (fail);try go_wp2)
                  go_ret
                  exact⟨J0,khu HB.out⟩
                 rw[if_neg c42]at H
                 have cJ:decide (((rd_T28 l2 0).f0)≤(rd l1 0))=false:=decide_eq_false c42
                 clear c42
                 replace H:=Option.bind_eq_some_iff.mp H
                 obtain⟨aJ,ct,H⟩:=H
                 replace H:(if aJ>4096 then(some 55) else(some 0))=some r:=H
                 have A43:=Aside0.mk ct
                 clear ct
                 by_cases c44:aJ>4096
                 ·rw[if_pos c44]at H
                  have cK:decide (4096<aJ)=true:=decide_eq_true c44
                  clear c44
                  obtain rfl:=Option.some.inj H
                  have an:0≤(0:Int):=Y0
                  have ao:0<(l2.length:Int):=of_decide_eq_true ‹_›
                  obtain⟨bF,bf,bg,aT,aa,ab,ak,al⟩:=at_T28 HR2.out 0 an ao
                  cases aT
                  have bG:(0<l2.length)=True:=eq_true Y0
                  (try rw[show((0:Int)).toNat=0 from rfl]at aa)
                  (try rw[show 0*2=0 from rfl]at aa)
                  (try rw[Addr.add_zero']at aa)
                  (try rw[show((0:Int)).toNat=0 from rfl]at ab)
                  (try rw[show 0*2=0 from rfl]at ab)
                  (try rw[Addr.add_zero']at ab)
                  replace aa:=(HB.out.cell (World.block_lt_of_cell? w _ aa)).trans aa
                  replace ab:=(HB.out.cell (World.block_lt_of_cell? w _ ab)).trans ab
                  have bb:=Aside0.mk al
                  have bc:=Aside0.mk ak
                  clear al ak
                  replace an:=eq_true an
                  replace ao:=eq_true ao
                  have aL:0≤(0:Int):=Y0
                  have aM:0<(l1.length:Int):=of_decide_eq_true ‹_›
                  obtain⟨cm,bK,ai⟩:=Kd.at_int HR1.out 0 aL aM
                  cases bK
                  have cn:(0<l1.length)=True:=eq_true Y0
                  (try rw[show((0:Int)).toNat=0 from rfl]at ai)
                  (try rw[Addr.add_zero']at ai)
                  replace ai:=(HB.out.cell (World.block_lt_of_cell? w _ ai)).trans ai
                  replace aL:=eq_true aL
                  replace aM:=eq_true aM
                  go_wp2_with (first|(go_at_call 36;(with_reducible refine(tribunalref09_Width.calls a0 _ _ l1 _ _ l2 aJ _ ?side1 ?side2 ?side3 ?side4 A43.out).mono ?_);(case side1=>repeat (first|exact(Kd.C_below HR1.out HB.out)|(with_reducible refine Kd.C_alloc ?_ _)|(with_reducible refine Kd.C_drewN ?_ _)|(with_reducible refine Kd.C_drew ?_)));(case side2=>exact HC1.out);(case side3=>repeat (first|exact(Kd.C_below HR2.out HB.out)|(with_reducible refine Kd.C_alloc ?_ _)|(with_reducible refine Kd.C_drewN ?_ _)|(with_reducible refine Kd.C_drew ?_)));(case side4=>exact HC2.out);rintro e w' ⟨rfl,⟨nd,rfl⟩⟩;(try first|exact⟨rfl,_,World.drewN_drewN _ _ _⟩|exact⟨rfl,_,Eq.trans (World.drewN_drewN _ _ _) (congrArg (World.drewN _) (Nat.add_assoc _ _ _))⟩)))
                  repeat (go_quiet (first|(go_at_call 36;(with_reducible refine(tribunalref09_Width.calls a0 _ _ l1 _ _ l2 aJ _ ?side1 ?side2 ?side3 ?side4 A43.out).mono ?_);(case side1=>repeat (first|exact(Kd.C_below HR1.out HB.out)|(with_reducible refine Kd.C_alloc ?_ _)|(with_reducible refine Kd.C_drewN ?_ _)|(with_reducible refine Kd.C_drew ?_)));(case side2=>exact HC1.out);(case side3=>repeat (first|exact(Kd.C_below HR2.out HB.out)|(with_reducible refine Kd.C_alloc ?_ _)|(with_reducible refine Kd.C_drewN ?_ _)|(with_reducible refine Kd.C_drew ?_)));(case side4=>exact HC2.out);rintro e w' ⟨rfl,⟨nd,rfl⟩⟩;(try first|exact⟨rfl,_,World.drewN_drewN _ _ _⟩|exact⟨rfl,_,Eq.trans (World.drewN_drewN _ _ _) (congrArg (World.drewN _) (Nat.add_assoc _ _ _))⟩)));try go_wp2_with (first|(go_at_call 36;(with_reducible refine(tribunalref09_Width.calls a0 _ _ l1 _ _ l2 aJ _ ?side1 ?side2 ?side3 ?side4 A43.out).mono ?_);(case side1=>repeat (first|exact(Kd.C_below HR1.out HB.out)|(with_reducible refine Kd.C_alloc ?_ _)|(with_reducible refine Kd.C_drewN ?_ _)|(with_reducible refine Kd.C_drew ?_)));(case side2=>exact HC1.out);(case side3=>repeat (first|exact(Kd.C_below HR2.out HB.out)|(with_reducible refine Kd.C_alloc ?_ _)|(with_reducible refine Kd.C_drewN ?_ _)|(with_reducible refine Kd.C_drew ?_)));(case side4=>exact HC2.out);rintro e w' ⟨rfl,⟨nd,rfl⟩⟩;(try first|exact⟨rfl,_,World.drewN_drewN _ _ _⟩|exact⟨rfl,_,Eq.trans (World.drewN_drewN _ _ _) (congrArg (World.drewN _) (Nat.add_assoc _ _ _))⟩))))
                  go_ret
                  exact⟨J0,khu HB.out⟩
                 rw[if_neg c44]at H
                 have cK:decide (4096<aJ)=false:=decide_eq_false c44
                 clear c44
                 obtain rfl:=Option.some.inj H
                 have an:0≤(0:Int):=Y0
                 have ao:0<(l2.length:Int):=of_decide_eq_true ‹_›
                 obtain⟨bF,bf,bg,aT,aa,ab,ak,al⟩:=at_T28 HR2.out 0 an ao
                 cases aT
                 have bG:(0<l2.length)=True:=eq_true Y0
                 (try rw[show((0:Int)).toNat=0 from rfl]at aa)
                 (try rw[show 0*2=0 from rfl]at aa)
                 (try rw[Addr.add_zero']at aa)
                 (try rw[show((0:Int)).toNat=0 from rfl]at ab)
                 (try rw[show 0*2=0 from rfl]at ab)
                 (try rw[Addr.add_zero']at ab)
                 replace aa:=(HB.out.cell (World.block_lt_of_cell? w _ aa)).trans aa
                 replace ab:=(HB.out.cell (World.block_lt_of_cell? w _ ab)).trans ab
                 have bb:=Aside0.mk al
                 have bc:=Aside0.mk ak
                 clear al ak
                 replace an:=eq_true an
                 replace ao:=eq_true ao
                 have aL:0≤(0:Int):=Y0
                 have aM:0<(l1.length:Int):=of_decide_eq_true ‹_›
                 obtain⟨cm,bK,ai⟩:=Kd.at_int HR1.out 0 aL aM
                 cases bK
                 have cn:(0<l1.length)=True:=eq_true Y0
                 (try rw[show((0:Int)).toNat=0 from rfl]at ai)
                 (try rw[Addr.add_zero']at ai)
                 replace ai:=(HB.out.cell (World.block_lt_of_cell? w _ ai)).trans ai
                 replace aL:=eq_true aL
                 replace aM:=eq_true aM
                 go_wp2_with (first|(go_at_call 36;(with_reducible refine(tribunalref09_Width.calls a0 _ _ l1 _ _ l2 aJ _ ?side1 ?side2 ?side3 ?side4 A43.out).mono ?_);(case side1=>repeat (first|exact(Kd.C_below HR1.out HB.out)|(with_reducible refine Kd.C_alloc ?_ _)|(with_reducible refine Kd.C_drewN ?_ _)|(with_reducible refine Kd.C_drew ?_)));(case side2=>exact HC1.out);(case side3=>repeat (first|exact(Kd.C_below HR2.out HB.out)|(with_reducible refine Kd.C_alloc ?_ _)|(with_reducible refine Kd.C_drewN ?_ _)|(with_reducible refine Kd.C_drew ?_)));(case side4=>exact HC2.out);rintro e w' ⟨rfl,⟨nd,rfl⟩⟩;(try first|exact⟨rfl,_,World.drewN_drewN _ _ _⟩|exact⟨rfl,_,Eq.trans (World.drewN_drewN _ _ _) (congrArg (World.drewN _) (Nat.add_assoc _ _ _))⟩)))
                 repeat (go_quiet (first|(go_at_call 36;(with_reducible refine(tribunalref09_Width.calls a0 _ _ l1 _ _ l2 aJ _ ?side1 ?side2 ?side3 ?side4 A43.out).mono ?_);(case side1=>repeat (first|exact(Kd.C_below HR1.out HB.out)|(with_reducible refine Kd.C_alloc ?_ _)|(with_reducible refine Kd.C_drewN ?_ _)|(with_reducible refine Kd.C_drew ?_)));(case side2=>exact HC1.out);(case side3=>repeat (first|exact(Kd.C_below HR2.out HB.out)|(with_reducible refine Kd.C_alloc ?_ _)|(with_reducible refine Kd.C_drewN ?_ _)|(with_reducible refine Kd.C_drew ?_)));(case side4=>exact HC2.out);rintro e w' ⟨rfl,⟨nd,rfl⟩⟩;(try first|exact⟨rfl,_,World.drewN_drewN _ _ _⟩|exact⟨rfl,_,Eq.trans (World.drewN_drewN _ _ _) (congrArg (World.drewN _) (Nat.add_assoc _ _ _))⟩)));try go_wp2_with (first|(go_at_call 36;(with_reducible refine(tribunalref09_Width.calls a0 _ _ l1 _ _ l2 aJ _ ?side1 ?side2 ?side3 ?side4 A43.out).mono ?_);(case side1=>repeat (first|exact(Kd.C_below HR1.out HB.out)|(with_reducible refine Kd.C_alloc ?_ _)|(with_reducible refine Kd.C_drewN ?_ _)|(with_reducible refine Kd.C_drew ?_)));(case side2=>exact HC1.out);(case side3=>repeat (first|exact(Kd.C_below HR2.out HB.out)|(with_reducible refine Kd.C_alloc ?_ _)|(with_reducible refine Kd.C_drewN ?_ _)|(with_reducible refine Kd.C_drew ?_)));(case side4=>exact HC2.out);rintro e w' ⟨rfl,⟨nd,rfl⟩⟩;(try first|exact⟨rfl,_,World.drewN_drewN _ _ _⟩|exact⟨rfl,_,Eq.trans (World.drewN_drewN _ _ _) (congrArg (World.drewN _) (Nat.add_assoc _ _ _))⟩))))
                 go_ret
                 exact⟨J0,khu HB.out⟩
                rw[if_neg c41]at H
                exact absurd H B0
               rw[if_neg c40]at H
               have cH:(a0==42)=false:=beq_eq_false_iff_ne.mpr c40
               have cI:(a0 != 42)=true:=bne_iff_ne.mpr c40
               replace H:=Option.bind_eq_some_iff.mp H
               obtain⟨aK,cu,H⟩:=H
               replace H:(if aK>4096 then(some 55) else(some 0))=some r:=H
               have A45:=Aside0.mk cu
               clear cu
               by_cases c46:aK>4096
               ·rw[if_pos c46]at H
                have cL:decide (4096<aK)=true:=decide_eq_true c46
                clear c46
                obtain rfl:=Option.some.inj H
                have an:0≤(0:Int):=Y0
                have ao:0<(l2.length:Int):=of_decide_eq_true ‹_›
                obtain⟨bF,bf,bg,aT,aa,ab,ak,al⟩:=at_T28 HR2.out 0 an ao
                cases aT
                have bG:(0<l2.length)=True:=eq_true Y0
                (try rw[show((0:Int)).toNat=0 from rfl]at aa)
                (try rw[show 0*2=0 from rfl]at aa)
                (try rw[Addr.add_zero']at aa)
                (try rw[show((0:Int)).toNat=0 from rfl]at ab)
                (try rw[show 0*2=0 from rfl]at ab)
                (try rw[Addr.add_zero']at ab)
                replace aa:=(HB.out.cell (World.block_lt_of_cell? w _ aa)).trans aa
                replace ab:=(HB.out.cell (World.block_lt_of_cell? w _ ab)).trans ab
                have bb:=Aside0.mk al
                have bc:=Aside0.mk ak
                clear al ak
                replace an:=eq_true an
                replace ao:=eq_true ao
                go_wp2_with (first|(go_at_call 36;(with_reducible refine(tribunalref09_Width.calls a0 _ _ l1 _ _ l2 aK _ ?side1 ?side2 ?side3 ?side4 A45.out).mono ?_);(case side1=>repeat (first|exact(Kd.C_below HR1.out HB.out)|(with_reducible refine Kd.C_alloc ?_ _)|(with_reducible refine Kd.C_drewN ?_ _)|(with_reducible refine Kd.C_drew ?_)));(case side2=>exact HC1.out);(case side3=>repeat (first|exact(Kd.C_below HR2.out HB.out)|(with_reducible refine Kd.C_alloc ?_ _)|(with_reducible refine Kd.C_drewN ?_ _)|(with_reducible refine Kd.C_drew ?_)));(case side4=>exact HC2.out);rintro e w' ⟨rfl,⟨nd,rfl⟩⟩;(try first|exact⟨rfl,_,World.drewN_drewN _ _ _⟩|exact⟨rfl,_,Eq.trans (World.drewN_drewN _ _ _) (congrArg (World.drewN _) (Nat.add_assoc _ _ _))⟩)))
                repeat (go_quiet (first|(go_at_call 36;(with_reducible refine(tribunalref09_Width.calls a0 _ _ l1 _ _ l2 aK _ ?side1 ?side2 ?side3 ?side4 A45.out).mono ?_);(case side1=>repeat (first|exact(Kd.C_below HR1.out HB.out)|(with_reducible refine Kd.C_alloc ?_ _)|(with_reducible refine Kd.C_drewN ?_ _)|(with_reducible refine Kd.C_drew ?_)));(case side2=>exact HC1.out);(case side3=>repeat (first|exact(Kd.C_below HR2.out HB.out)|(with_reducible refine Kd.C_alloc ?_ _)|(with_reducible refine Kd.C_drewN ?_ _)|(with_reducible refine Kd.C_drew ?_)));(case side4=>exact HC2.out);rintro e w' ⟨rfl,⟨nd,rfl⟩⟩;(try first|exact⟨rfl,_,World.drewN_drewN _ _ _⟩|exact⟨rfl,_,Eq.trans (World.drewN_drewN _ _ _) (congrArg (World.drewN _) (Nat.add_assoc _ _ _))⟩)));try go_wp2_with (first|(go_at_call 36;(with_reducible refine(tribunalref09_Width.calls a0 _ _ l1 _ _ l2 aK _ ?side1 ?side2 ?side3 ?side4 A45.out).mono ?_);(case side1=>repeat (first|exact(Kd.C_below HR1.out HB.out)|(with_reducible refine Kd.C_alloc ?_ _)|(with_reducible refine Kd.C_drewN ?_ _)|(with_reducible refine Kd.C_drew ?_)));(case side2=>exact HC1.out);(case side3=>repeat (first|exact(Kd.C_below HR2.out HB.out)|(with_reducible refine Kd.C_alloc ?_ _)|(with_reducible refine Kd.C_drewN ?_ _)|(with_reducible refine Kd.C_drew ?_)));(case side4=>exact HC2.out);rintro e w' ⟨rfl,⟨nd,rfl⟩⟩;(try first|exact⟨rfl,_,World.drewN_drewN _ _ _⟩|exact⟨rfl,_,Eq.trans (World.drewN_drewN _ _ _) (congrArg (World.drewN _) (Nat.add_assoc _ _ _))⟩))))
                go_ret
                exact⟨J0,khu HB.out⟩
               rw[if_neg c46]at H
               have cL:decide (4096<aK)=false:=decide_eq_false c46
               clear c46
               obtain rfl:=Option.some.inj H
               have an:0≤(0:Int):=Y0
               have ao:0<(l2.length:Int):=of_decide_eq_true ‹_›
               obtain⟨bF,bf,bg,aT,aa,ab,ak,al⟩:=at_T28 HR2.out 0 an ao
               cases aT
               have bG:(0<l2.length)=True:=eq_true Y0
               (try rw[show((0:Int)).toNat=0 from rfl]at aa)
               (try rw[show 0*2=0 from rfl]at aa)
               (try rw[Addr.add_zero']at aa)
               (try rw[show((0:Int)).toNat=0 from rfl]at ab)
               (try rw[show 0*2=0 from rfl]at ab)
               (try rw[Addr.add_zero']at ab)
               replace aa:=(HB.out.cell (World.block_lt_of_cell? w _ aa)).trans aa
               replace ab:=(HB.out.cell (World.block_lt_of_cell? w _ ab)).trans ab
               have bb:=Aside0.mk al
               have bc:=Aside0.mk ak
               clear al ak
               replace an:=eq_true an
               replace ao:=eq_true ao
               go_wp2_with (first|(go_at_call 36;(with_reducible refine(tribunalref09_Width.calls a0 _ _ l1 _ _ l2 aK _ ?side1 ?side2 ?side3 ?side4 A45.out).mono ?_);(case side1=>repeat (first|exact(Kd.C_below HR1.out HB.out)|(with_reducible refine Kd.C_alloc ?_ _)|(with_reducible refine Kd.C_drewN ?_ _)|(with_reducible refine Kd.C_drew ?_)));(case side2=>exact HC1.out);(case side3=>repeat (first|exact(Kd.C_below HR2.out HB.out)|(with_reducible refine Kd.C_alloc ?_ _)|(with_reducible refine Kd.C_drewN ?_ _)|(with_reducible refine Kd.C_drew ?_)));(case side4=>exact HC2.out);rintro e w' ⟨rfl,⟨nd,rfl⟩⟩;(try first|exact⟨rfl,_,World.drewN_drewN _ _ _⟩|exact⟨rfl,_,Eq.trans (World.drewN_drewN _ _ _) (congrArg (World.drewN _) (Nat.add_assoc _ _ _))⟩)))
               repeat (go_quiet (first|(go_at_call 36;(with_reducible refine(tribunalref09_Width.calls a0 _ _ l1 _ _ l2 aK _ ?side1 ?side2 ?side3 ?side4 A45.out).mono ?_);(case side1=>repeat (first|exact(Kd.C_below HR1.out HB.out)|(with_reducible refine Kd.C_alloc ?_ _)|(with_reducible refine Kd.C_drewN ?_ _)|(with_reducible refine Kd.C_drew ?_)));(case side2=>exact HC1.out);(case side3=>repeat (first|exact(Kd.C_below HR2.out HB.out)|(with_reducible refine Kd.C_alloc ?_ _)|(with_reducible refine Kd.C_drewN ?_ _)|(with_reducible refine Kd.C_drew ?_)));(case side4=>exact HC2.out);rintro e w' ⟨rfl,⟨nd,rfl⟩⟩;(try first|exact⟨rfl,_,World.drewN_drewN _ _ _⟩|exact⟨rfl,_,Eq.trans (World.drewN_drewN _ _ _) (congrArg (World.drewN _) (Nat.add_assoc _ _ _))⟩)));try go_wp2_with (first|(go_at_call 36;(with_reducible refine(tribunalref09_Width.calls a0 _ _ l1 _ _ l2 aK _ ?side1 ?side2 ?side3 ?side4 A45.out).mono ?_);(case side1=>repeat (first|exact(Kd.C_below HR1.out HB.out)|(with_reducible refine Kd.C_alloc ?_ _)|(with_reducible refine Kd.C_drewN ?_ _)|(with_reducible refine Kd.C_drew ?_)));(case side2=>exact HC1.out);(case side3=>repeat (first|exact(Kd.C_below HR2.out HB.out)|(with_reducible refine Kd.C_alloc ?_ _)|(with_reducible refine Kd.C_drewN ?_ _)|(with_reducible refine Kd.C_drew ?_)));(case side4=>exact HC2.out);rintro e w' ⟨rfl,⟨nd,rfl⟩⟩;(try first|exact⟨rfl,_,World.drewN_drewN _ _ _⟩|exact⟨rfl,_,Eq.trans (World.drewN_drewN _ _ _) (congrArg (World.drewN _) (Nat.add_assoc _ _ _))⟩))))
               go_ret
               exact⟨J0,khu HB.out⟩
              rw[if_neg c39]at H
              exact absurd H B0
             rw[if_neg c38]at H
             have cF:(ah==1)=false:=beq_eq_false_iff_ne.mpr c38
             have cG:(ah != 1)=true:=bne_iff_ne.mpr c38
             obtain rfl:=Option.some.inj H
             go_wp2
             repeat (go_quiet (fail);try go_wp2)
             go_ret
             exact⟨J0,khu HB.out⟩
  rw[if_neg c7]at H
  have bj:((l2.length:Int)==ag)=false:=beq_eq_false_iff_ne.mpr c7
  have bk:((l2.length:Int) != ag)=true:=bne_iff_ne.mpr c7
  obtain rfl:=Option.some.inj H
  go_enter Tryz.func35,Tryz.ntmps35
  go_wp2_with (first|(go_at_call 73;(with_reducible refine(tribunalref09_kind.calls k a0 ah ag am _ A5.out).mono ?_);rintro e w' ⟨rfl,⟨nd,rfl⟩⟩;(try first|exact⟨rfl,_,World.drewN_drewN _ _ _⟩|exact⟨rfl,_,Eq.trans (World.drewN_drewN _ _ _) (congrArg (World.drewN _) (Nat.add_assoc _ _ _))⟩)))
  repeat (go_quiet (first|(go_at_call 73;(with_reducible refine(tribunalref09_kind.calls k a0 ah ag am _ A5.out).mono ?_);rintro e w' ⟨rfl,⟨nd,rfl⟩⟩;(try first|exact⟨rfl,_,World.drewN_drewN _ _ _⟩|exact⟨rfl,_,Eq.trans (World.drewN_drewN _ _ _) (congrArg (World.drewN _) (Nat.add_assoc _ _ _))⟩)));try go_wp2_with (first|(go_at_call 73;(with_reducible refine(tribunalref09_kind.calls k a0 ah ag am _ A5.out).mono ?_);rintro e w' ⟨rfl,⟨nd,rfl⟩⟩;(try first|exact⟨rfl,_,World.drewN_drewN _ _ _⟩|exact⟨rfl,_,Eq.trans (World.drewN_drewN _ _ _) (congrArg (World.drewN _) (Nat.add_assoc _ _ _))⟩))))
  go_ret
  exact⟨J0,khu HB.out⟩
 rw[if_neg c6]at H
 have bh:(ah==a3)=false:=beq_eq_false_iff_ne.mpr c6
 have bi:(ah != a3)=true:=bne_iff_ne.mpr c6
 obtain rfl:=Option.some.inj H
 go_enter Tryz.func35,Tryz.ntmps35
 go_wp2_with (first|(go_at_call 73;(with_reducible refine(tribunalref09_kind.calls k a0 ah ag am _ A5.out).mono ?_);rintro e w' ⟨rfl,⟨nd,rfl⟩⟩;(try first|exact⟨rfl,_,World.drewN_drewN _ _ _⟩|exact⟨rfl,_,Eq.trans (World.drewN_drewN _ _ _) (congrArg (World.drewN _) (Nat.add_assoc _ _ _))⟩)))
 repeat (go_quiet (first|(go_at_call 73;(with_reducible refine(tribunalref09_kind.calls k a0 ah ag am _ A5.out).mono ?_);rintro e w' ⟨rfl,⟨nd,rfl⟩⟩;(try first|exact⟨rfl,_,World.drewN_drewN _ _ _⟩|exact⟨rfl,_,Eq.trans (World.drewN_drewN _ _ _) (congrArg (World.drewN _) (Nat.add_assoc _ _ _))⟩)));try go_wp2_with (first|(go_at_call 73;(with_reducible refine(tribunalref09_kind.calls k a0 ah ag am _ A5.out).mono ?_);rintro e w' ⟨rfl,⟨nd,rfl⟩⟩;(try first|exact⟨rfl,_,World.drewN_drewN _ _ _⟩|exact⟨rfl,_,Eq.trans (World.drewN_drewN _ _ _) (congrArg (World.drewN _) (Nat.add_assoc _ _ _))⟩))))
 go_ret
 exact⟨J0,khu HB.out⟩
def tribunalref02_cmpD.l0:Nat→List Int→List Int→Int→Option (Int)
 | 0,_,_,_=>none
 | k+1,x0,x1,x5=>if x5≥0 then(if 0≤x5 then(if x5<(x0.length:Int) then(if x5<(x1.length:Int) then(if(rd x0 x5)<(rd x1 x5) then(some (-1)) else(if(rd x0 x5)>(rd x1 x5) then(some 1) else(tribunalref02_cmpD.l0 k x0 x1 (wrap64 (x5-1))))) else(none)) else(none)) else(none)) else(some 0)
def tribunalref02_cmpD.f (k:Nat) (l0:List Int) (l1:List Int):Option (Int):=if(l0.length:Int)=(l1.length:Int) then(tribunalref02_cmpD.l0 k l0 l1 (wrap64 ((l0.length:Int)-1))) else(if(l0.length:Int)<(l1.length:Int) then(some (-1)) else(some 1))
theorem tribunalref02_cmpD.calls (k:Nat) (A0:Option Addr) (c0:Nat) (l0:List Int) (A1:Option Addr) (c1:Nat) (l1:List Int) (r:Int) (w:World) (hr0:Kd.C (Kd.int .u16) w A0 l0.length l0) (hc0:l0.length≤c0) (hr1:Kd.C (Kd.int .u16) w A1 l1.length l1) (hc1:l1.length≤c1) (h:tribunalref02_cmpD.f k l0 l1=some r) :
  Calls Tryz.prog 90 #[.slice A0 l0.length c0,.slice A1 l1.length c1] w fun e w'=>e=.returned (.int .i64 r)∧Drawn0 w w':=by
 have HR0:=Aside0.mk hr0
 have HC0:=Aside0.mk hc0
 clear hr0 hc0
 have HR1:=Aside0.mk hr1
 have HC1:=Aside0.mk hc1
 clear hr1 hc1
 have H:(if(l0.length:Int)=(l1.length:Int) then(tribunalref02_cmpD.l0 k l0 l1 (wrap64 ((l0.length:Int)-1))) else(if(l0.length:Int)<(l1.length:Int) then(some (-1)) else(some 1)))=some r:=h
 clear h
 by_cases c3:(l0.length:Int)=(l1.length:Int)
 ·rw [if_pos c3]at H
  have ax:((l0.length:Int)==(l1.length:Int))=true:=beq_iff_eq.mpr c3
  have ay:((l0.length:Int) != (l1.length:Int))=false:=bne_eq_false_iff_eq.mpr c3
  have az:(l0.length==l1.length)=true:=by first|simpa using c3|(simp at c3 ⊢;omega)
  clear c3
  have H':=Aside0.mk H
  clear H
  go_enter Tryz.func90,Tryz.ntmps90
  go_wp2
  repeat (go_quiet (fail);try go_wp2)
  go_loopg [5] k (fun kq v5 w'=>∃(aa:Int),v5=.int .i64 aa∧Aside0 (tribunalref02_cmpD.l0 kq l0 l1 aa=some r)∧Aside0 (kq≤k)∧Drawn0 w w')
  case atStart=>exact⟨(wrap64 ((l0.length:Int)-1)),X0,H',⟨Nat.le_refl _⟩,U0⟩
  case round=>
   clear H'
   try clear c1
   try clear p2
   try clear c3
   try clear ax
   try clear ay
   try clear az
   obtain⟨aa,rfl,HA,HK1,⟨m1,rfl⟩⟩:=hrel
   cases gk with
   | zero=>exact absurd HA.out (by simp[tribunalref02_cmpD.l0])
   | succ k1=>
    have H:=HA.out
    clear HA
    simp only[tribunalref02_cmpD.l0]at H
    by_cases c4:aa≥0
    ·rw [if_pos c4]at H
     have aC:decide (0≤aa)=true:=decide_eq_true c4
     clear c4
     by_cases c5:0≤aa
     ·rw [if_pos c5]at H
      have aF:decide (0≤aa)=true:=decide_eq_true c5
      clear c5
      by_cases c6:aa<(l0.length:Int)
      ·rw[if_pos c6]at H
       have aG:decide (aa<(l0.length:Int))=true:=decide_eq_true c6
       clear c6
       by_cases c7:aa<(l1.length:Int)
       ·rw[if_pos c7]at H
        have aH:decide (aa<(l1.length:Int))=true:=decide_eq_true c7
        clear c7
        by_cases c8:(rd l0 aa)<(rd l1 aa)
        ·rw[if_pos c8]at H
         have aD:decide ((rd l0 aa)<(rd l1 aa))=true:=decide_eq_true c8
         clear c8
         obtain rfl:=Option.some.inj H
         have ab:0≤(aa:Int):=of_decide_eq_true ‹_›
         have ac:aa<(l0.length:Int):=of_decide_eq_true ‹_›
         obtain⟨aj,al,an⟩:=Kd.at_int HR0.out aa ab ac
         cases al
         replace ab:=eq_true ab
         replace ac:=eq_true ac
         have ad:0≤(aa:Int):=of_decide_eq_true ‹_›
         have ae:aa<(l1.length:Int):=of_decide_eq_true ‹_›
         obtain⟨ak,am,ao⟩:=Kd.at_int HR1.out aa ad ae
         cases am
         replace ad:=eq_true ad
         replace ae:=eq_true ae
         go_wp2
         repeat (go_quiet (fail);try go_wp2)
         go_ret
         exact⟨X0,U0⟩
        rw[if_neg c8]at H
        have aD:decide ((rd l0 aa)<(rd l1 aa))=false:=decide_eq_false c8
        clear c8
        by_cases c9:(rd l0 aa)>(rd l1 aa)
        ·rw[if_pos c9]at H
         have aE:decide ((rd l1 aa)<(rd l0 aa))=true:=decide_eq_true c9
         clear c9
         obtain rfl:=Option.some.inj H
         have ab:0≤(aa:Int):=of_decide_eq_true ‹_›
         have ac:aa<(l0.length:Int):=of_decide_eq_true ‹_›
         obtain⟨aj,al,an⟩:=Kd.at_int HR0.out aa ab ac
         cases al
         replace ab:=eq_true ab
         replace ac:=eq_true ac
         have ad:0≤(aa:Int):=of_decide_eq_true ‹_›
         have ae:aa<(l1.length:Int):=of_decide_eq_true ‹_›
         obtain⟨ak,am,ao⟩:=Kd.at_int HR1.out aa ad ae
         cases am
         replace ad:=eq_true ad
         replace ae:=eq_true ae
         have af:0≤(aa:Int):=of_decide_eq_true ‹_›
         have ag:aa<(l0.length:Int):=of_decide_eq_true ‹_›
         obtain⟨ap,ar,av⟩:=Kd.at_int HR0.out aa af ag
         obtain rfl:aj=ap:=(by injection ar)
         replace af:=eq_true af
         replace ag:=eq_true ag
         have ah:0≤(aa:Int):=of_decide_eq_true ‹_›
         have ai:aa<(l1.length:Int):=of_decide_eq_true ‹_›
         obtain⟨aq,au,aw⟩:=Kd.at_int HR1.out aa ah ai
         obtain rfl:ak=aq:=(by injection au)
         replace ah:=eq_true ah
         replace ai:=eq_true ai
         go_wp2
         repeat (go_quiet (fail);try go_wp2)
         go_ret
         exact⟨X0,U0⟩
        rw[if_neg c9]at H
        have aE:decide ((rd l1 aa)<(rd l0 aa))=false:=decide_eq_false c9
        clear c9
        have H':=Aside0.mk H
        clear H
        have ab:0≤(aa:Int):=of_decide_eq_true ‹_›
        have ac:aa<(l0.length:Int):=of_decide_eq_true ‹_›
        obtain⟨aj,al,an⟩:=Kd.at_int HR0.out aa ab ac
        cases al
        replace ab:=eq_true ab
        replace ac:=eq_true ac
        have ad:0≤(aa:Int):=of_decide_eq_true ‹_›
        have ae:aa<(l1.length:Int):=of_decide_eq_true ‹_›
        obtain⟨ak,am,ao⟩:=Kd.at_int HR1.out aa ad ae
        cases am
        replace ad:=eq_true ad
        replace ae:=eq_true ae
        have af:0≤(aa:Int):=of_decide_eq_true ‹_›
        have ag:aa<(l0.length:Int):=of_decide_eq_true ‹_›
        obtain⟨ap,ar,av⟩:=Kd.at_int HR0.out aa af ag
        obtain rfl:aj=ap:=(by injection ar)
        replace af:=eq_true af
        replace ag:=eq_true ag
        have ah:0≤(aa:Int):=of_decide_eq_true ‹_›
        have ai:aa<(l1.length:Int):=of_decide_eq_true ‹_›
        obtain⟨aq,au,aw⟩:=Kd.at_int HR1.out aa ah ai
        obtain rfl:ak=aq:=(by injection au)
        replace ah:=eq_true ah
        replace ai:=eq_true ai
        go_wp2
        repeat (go_quiet (fail);try go_wp2)
        go_roundg k1
        case measure=>have:=HK1.out;omega
        case rel=>exact⟨(wrap64 (aa-1)),X0,H',⟨Z2⟩,U0⟩
       rw[if_neg c7]at H
       exact absurd H B0
      rw[if_neg c6]at H
      exact absurd H B0
     rw[if_neg c5]at H
     exact absurd H B0
    rw[if_neg c4]at H
    have aC:decide (0≤aa)=false:=decide_eq_false c4
    clear c4
    obtain rfl:=Option.some.inj H
    go_wp2
    repeat (go_quiet (fail);try go_wp2)
    go_ret
    exact⟨X0,U0⟩
 rw[if_neg c3]at H
 have ax:((l0.length:Int)==(l1.length:Int))=false:=beq_eq_false_iff_ne.mpr c3
 have ay:((l0.length:Int) != (l1.length:Int))=true:=bne_iff_ne.mpr c3
 have az:(l0.length==l1.length)=false:=by first|simpa using c3|(simp at c3 ⊢;omega)
 by_cases c10:(l0.length:Int)<(l1.length:Int)
 ·rw[if_pos c10]at H
  have aA:decide ((l0.length:Int)<(l1.length:Int))=true:=decide_eq_true c10
  have aB:decide (l0.length<l1.length)=true:=decide_eq_true (Int.ofNat_lt.mp c10)
  clear c10
  obtain rfl:=Option.some.inj H
  go_enter Tryz.func90,Tryz.ntmps90
  go_wp2
  repeat (go_quiet (fail);try go_wp2)
  go_ret
  exact⟨X0,U0⟩
 rw[if_neg c10]at H
 have aA:decide ((l0.length:Int)<(l1.length:Int))=false:=decide_eq_false c10
 have aB:decide (l0.length<l1.length)=false:=decide_eq_false (fun h=>c10 (Int.ofNat_lt.mpr h))
 clear c10
 obtain rfl:=Option.some.inj H
 go_enter Tryz.func90,Tryz.ntmps90
 go_wp2
 repeat (go_quiet (fail);try go_wp2)
 go_ret
 exact⟨X0,U0⟩
def tribunalref02_Cmp1.f (k:Nat) (a0_0:Bool) (l0_1:List Int) (a1_0:Bool) (l1_1:List Int):Option (Int):=if(a0_0 != a1_0)=true then(if a0_0=true then(some (-1)) else(some 1)) else(if a0_0=true then((tribunalref02_cmpD.f k l1_1 l0_1).bind fun t922=>(some t922)) else((tribunalref02_cmpD.f k l0_1 l1_1).bind fun t923=>(some t923)))
theorem tribunalref02_Cmp1.calls (k:Nat) (ah:Bool) (ad:Option Addr) (ae:Nat) (aa:List Int) (ac:Bool) (af:Option Addr) (ag:Nat) (ab:List Int) (r:Int) (w:World) (ai:Kd.C (Kd.int .u16) w ad aa.length aa) (aj:aa.length≤ae) (ak:Kd.C (Kd.int .u16) w af ab.length ab) (al:ab.length≤ag) (h:tribunalref02_Cmp1.f k ah aa ac ab=some r) :
  Calls Tryz.prog 45 #[.agg #[.bool ah,.slice ad aa.length ae],.agg #[.bool ac,.slice af ab.length ag]] w fun e w'=>e=.returned (.int .i64 r)∧Below w.heap.size w w':=by
 have an:=Tryz.underlying81
 have K:=Kp.refl w
 replace K:=K.parV (Kd.V_mono (ok':=fun _=>True) (Kd.V_mk (e:=127) (base:=0) aj (Kd.C_F (Kd.heap_int .u16) ai)) (fun _ h=>trivial))
 clear ai aj
 replace K:=K.parV (Kd.V_mono (ok':=fun _=>True) (Kd.V_mk (e:=127) (base:=0) al (Kd.C_F (Kd.heap_int .u16) ak)) (fun _ h=>trivial))
 clear ak al
 try simp only[klv]at K
 rw[tribunalref02_Cmp1.f]at h
 by_cases c_0:(ah != ac)=true
 ·rw[if_pos c_0]at h
  have am:(ah==ac)=false:=by simpa using c_0
  by_cases c_1:ah=true
  ·subst c_1
   rw[if_pos rfl]at h
   simp only[Option.some.injEq]at h
   subst h
   go_enter Tryz.func45,Tryz.ntmps45
   go_wp2_with (first|(refine gd 2 rfl ?_;refine kbk 2 #[.bool true,.slice ad aa.length ae] 81 K.u ?_;clear K;intro g1 W2 K)|(refine gd 3 rfl ?_;refine kbk 3 #[.bool ac,.slice af ab.length ag] 81 K.u ?_;clear K;intro g3 W4 K;obtain⟨ua0,ub0⟩:=K.cell2 0 rfl;obtain⟨ua1,ub1⟩:=K.cell2 1 rfl))
   go_ret
   exact⟨rfl,K.u.below⟩
  replace c_1:=Bool.eq_false_iff.mpr c_1
  subst c_1
  rw[if_neg V0]at h
  simp only[Option.some.injEq]at h
  subst h
  go_enter Tryz.func45,Tryz.ntmps45
  go_wp2_with (first|(refine gd 2 rfl ?_;refine kbk 2 #[.bool false,.slice ad aa.length ae] 81 K.u ?_;clear K;intro g1 W2 K)|(refine gd 3 rfl ?_;refine kbk 3 #[.bool ac,.slice af ab.length ag] 81 K.u ?_;clear K;intro g3 W4 K;obtain⟨ua0,ub0⟩:=K.cell2 0 rfl;obtain⟨ua1,ub1⟩:=K.cell2 1 rfl))
  go_ret
  exact⟨rfl,K.u.below⟩
 rw[if_neg c_0]at h
 replace c_0:=Bool.eq_false_iff.mpr c_0
 have am:(ah==ac)=true:=by simpa using c_0
 by_cases c_1:ah=true
 ·subst c_1
  rw[if_pos rfl]at h
  replace h:=bindA h
  obtain⟨n5,A6,h⟩:=h
  simp only[Option.some.injEq]at h
  subst h
  go_enter Tryz.func45,Tryz.ntmps45
  go_wp2_with (first|(refine gd 2 rfl ?_;refine kbk 2 #[.bool true,.slice ad aa.length ae] 81 K.u ?_;clear K;intro g1 W2 K)|(refine gd 3 rfl ?_;refine kbk 3 #[.bool ac,.slice af ab.length ag] 81 K.u ?_;clear K;intro g3 W4 K;obtain⟨ua0,ub0⟩:=K.cell2 0 rfl;obtain⟨ua1,ub1⟩:=K.cell2 1 rfl)|(refine gd 18 rfl ?_;clear ua0 ub0 ua1 ub1;refine kgl (some 18) rfl rfl Tryz.func90 #[.slice af ab.length ag,.slice ad aa.length ae] rfl ?_;refine(tribunalref02_cmpD.calls _ _ _ ab _ _ aa n5 _ (K.C 1 rfl) (K.le 1 rfl) (K.C 0 rfl) (K.le 0 rfl) A6.out).mono ?_;rintro e W7 ⟨rfl,hb⟩;refine⟨_,rfl,?_⟩;replace K:=K.u.up hb.below;clear hb))
  go_ret
  exact⟨rfl,K.u.below⟩
 replace c_1:=Bool.eq_false_iff.mpr c_1
 subst c_1
 rw[if_neg V0]at h
 replace h:=bindA h
 obtain⟨n5,A6,h⟩:=h
 simp only[Option.some.injEq]at h
 subst h
 go_enter Tryz.func45,Tryz.ntmps45
 go_wp2_with (first|(refine gd 2 rfl ?_;refine kbk 2 #[.bool false,.slice ad aa.length ae] 81 K.u ?_;clear K;intro g1 W2 K)|(refine gd 3 rfl ?_;refine kbk 3 #[.bool ac,.slice af ab.length ag] 81 K.u ?_;clear K;intro g3 W4 K;obtain⟨ua0,ub0⟩:=K.cell2 0 rfl;obtain⟨ua1,ub1⟩:=K.cell2 1 rfl)|(refine gd 23 rfl ?_;clear ua0 ub0 ua1 ub1;refine kgl (some 23) rfl rfl Tryz.func90 #[.slice ad aa.length ae,.slice af ab.length ag] rfl ?_;refine(tribunalref02_cmpD.calls _ _ _ aa _ _ ab n5 _ (K.C 0 rfl) (K.le 0 rfl) (K.C 1 rfl) (K.le 1 rfl) A6.out).mono ?_;rintro e W7 ⟨rfl,hb⟩;refine⟨_,rfl,?_⟩;replace K:=K.u.up hb.below;clear hb))
 go_ret
 exact⟨rfl,K.u.below⟩
def tribunalref02_trim.l0:Nat→List Int→Int→Option (List Int)
 | 0,_,_=>none
 | k+1,x0,x3=>if x3>0 then(if 0≤(wrap64 (x3-1)) then(if(wrap64 (x3-1))<(x0.length:Int) then(if(rd x0 (wrap64 (x3-1)))=0 then(tribunalref02_trim.l0 k x0 (wrap64 (x3-1))) else(if 0≤x3 then(if x3≤(x0.length:Int) then(some (x0.take (x3:Int).toNat)) else(none)) else(none))) else(none)) else(none)) else(if 0≤x3 then(if x3≤(x0.length:Int) then(some (x0.take (x3:Int).toNat)) else(none)) else(none))
def tribunalref02_trim.f (k:Nat) (l0:List Int):Option (List Int):=tribunalref02_trim.l0 k l0 (l0.length:Int)
theorem tribunalref02_trim.mono_l:∀k,(∀y0 y1,LeO (tribunalref02_trim.l0 k y0 y1) (tribunalref02_trim.l0 (k+1) y0 y1))
 | 0=>fun _ _ r h=>by simp[tribunalref02_trim.l0]at h
 | k+1=>by
  have ih0:=tribunalref02_trim.mono_l k
  intro y0 y1
  unfold tribunalref02_trim.l0
  repeat' first
  | (with_reducible exact ih0 _ _)
  | (with_reducible exact LeO.refl _)
  | (with_reducible exact LeO.none _)
  | (with_reducible refine LeO.ite ?_ ?_)
  | (with_reducible refine LeO.bind ?_ (fun _=>?_))
  | exact ih0 _ _
  | exact LeO.none _
  | refine LeO.ite ?_ ?_
  | refine LeO.bind ?_ (fun _=>?_)
theorem tribunalref02_trim.mono:∀a0 k,LeO (tribunalref02_trim.f k a0) (tribunalref02_trim.f (k+1) a0):=by
 intro a0 k
 have ih0:=tribunalref02_trim.mono_l k
 unfold tribunalref02_trim.f
 repeat' first
   | (with_reducible exact ih0 _ _)
   | (with_reducible exact LeO.refl _)
   | (with_reducible exact LeO.none _)
   | (with_reducible refine LeO.ite ?_ ?_)
   | (with_reducible refine LeO.bind ?_ (fun _=>?_))
   | exact ih0 _ _
   | exact LeO.none _
   | refine LeO.ite ?_ ?_
   | refine LeO.bind ?_ (fun _=>?_)
theorem tribunalref02_trim.calls (k:Nat) (P0_:Nat→Prop) (A0:Option Addr) (c0:Nat) (l0:List Int) (r:List Int) (w:World) (hs0:Kd.V (Kd.int .u16) 127 w w.heap.size (fun k_=>P0_ k_) (.slice A0 l0.length c0) l0) (h:tribunalref02_trim.f k l0=some r) :
  Calls Tryz.prog 155 #[.slice A0 l0.length c0] w fun e w'=>∃v0_:Value,e=.returned (v0_)∧Kd.V (Kd.int .u16) 127 w' w.heap.size (fun k_=>(P0_ k_∨w.heap.size≤k_)) v0_ r∧Below w.heap.size w w':=by
 have HO0:=Aside0.mk (show Kd.V (Kd.int .u16) 127 w w.heap.size (fun k_=>(P0_ k_∨w.heap.size≤k_)) (.slice A0 l0.length c0) l0 from Kd.V_mono hs0 (fun k_ hk=>.inl hk))
 have HB:=Aside0.mk (Below.refl w.heap.size w)
 have H:(tribunalref02_trim.l0 k l0 (l0.length:Int))=some r:=h
 clear h
 have H':=Aside0.mk H
 clear H
 go_enter Tryz.func155,Tryz.ntmps155
 go_wp2
 go_loopg [3] k (fun kq v3 w'=>∃(aa:Int),v3=.int .i64 aa∧Aside0 (tribunalref02_trim.l0 kq l0 aa=some r)∧Aside0 (kq≤k)∧Aside0 (Kd.V (Kd.int .u16) 127 w' w.heap.size (fun k_=>(P0_ k_∨w.heap.size≤k_)) (.slice A0 l0.length c0) l0)∧Aside0 (Below w.heap.size w w'))
 case atStart=>exact⟨((l0.length:Int)),X0,H',⟨Nat.le_refl _⟩,⟨kvu HO0.out⟩,⟨khu HB.out⟩⟩
 case round=>
  clear H'
  try clear c1
  obtain⟨aa,rfl,HA,HK1,ab,HB⟩:=hrel
  cases gk with
  | zero=>exact absurd HA.out (by simp[tribunalref02_trim.l0])
  | succ k1=>
   have H:=HA.out
   clear HA
   simp only[tribunalref02_trim.l0]at H
   by_cases c2:aa>0
   ·rw [if_pos c2]at H
    have aB:decide (0<aa)=true:=decide_eq_true c2
    clear c2
    obtain⟨ji3,hji3⟩:∃j_:Int,(wrap64 (aa-1))=j_:=⟨_,rfl⟩
    replace H:(if 0≤(ji3) then(if(ji3)<(l0.length:Int) then(if(rd l0 (ji3))=0 then(tribunalref02_trim.l0 k1 l0 ji3) else(if 0≤aa then(if aa≤(l0.length:Int) then(some (l0.take (aa:Int).toNat)) else(none)) else(none))) else(none)) else(none))=some r:=by first|(rw[hji3]at H;exact H)|(simp only[hji3]at H ⊢;exact H)
    have aF:(IntKind.i64.wrap (aa-1))=ji3:=(i64_w _).trans hji3
    by_cases c4:0≤(ji3)
    ·rw [if_pos c4]at H
     have aM:decide (0≤(ji3))=true:=decide_eq_true c4
     clear c4
     by_cases c5:(ji3)<(l0.length:Int)
     ·rw[if_pos c5]at H
      have aN:decide ((ji3)<(l0.length:Int))=true:=decide_eq_true c5
      clear c5
      by_cases c6:(rd l0 (ji3))=0
      ·rw[if_pos c6]at H
       have aC:((rd l0 (ji3))==0)=true:=beq_iff_eq.mpr c6
       have aD:((rd l0 (ji3)) != 0)=false:=bne_eq_false_iff_eq.mpr c6
       clear c6
       have H':=Aside0.mk H
       clear H
       have ac:0≤((ji3):Int):=of_decide_eq_true ‹_›
       have ad:(ji3)<(l0.length:Int):=of_decide_eq_true ‹_›
       obtain⟨ag,al,ar⟩:=Kd.at_int (Kd.V_reads' ab.out).2.2 (ji3) ac ad
       cases al
       replace ac:=eq_true ac
       replace ad:=eq_true ad
       go_wp2
       go_roundg k1
       case measure=>have:=HK1.out;omega
       case rel=>exact⟨(ji3),Z5,H',⟨Z2⟩,⟨kvu ab.out⟩,⟨khu HB.out⟩⟩
      rw[if_neg c6]at H
      have aC:((rd l0 (ji3))==0)=false:=beq_eq_false_iff_ne.mpr c6
      have aD:((rd l0 (ji3)) != 0)=true:=bne_iff_ne.mpr c6
      by_cases c7:0≤aa
      ·rw[if_pos c7]at H
       have aO:=eq_true c7
       have aP:decide (0≤aa)=true:=decide_eq_true c7
       clear c7
       by_cases c8:aa≤(l0.length:Int)
       ·rw[if_pos c8]at H
        have aQ:=eq_true c8
        have aR:decide (aa≤(l0.length:Int))=true:=decide_eq_true c8
        clear c8
        obtain⟨ah,ae⟩:∃y_:List Int,y_=(l0.take (aa:Int).toNat):=⟨_,rfl⟩
        replace H:(some ah)=some r:=by first|(rw[ae];with_reducible exact H)|(have H2_:=(Option.bind_some _ _).symm.trans H;rw[ae];with_reducible exact H2_)|(have H2_:=(Option.bind_some _ _).symm.trans H;with_reducible exact H2_)|with_reducible exact H|(rw[ae];exact H)|exact H
        have ao:=Aside0.mk ae
        clear ae
        obtain rfl:=Option.some.inj H
        have ac:0≤((ji3):Int):=of_decide_eq_true ‹_›
        have ad:(ji3)<(l0.length:Int):=of_decide_eq_true ‹_›
        obtain⟨ag,al,ar⟩:=Kd.at_int (Kd.V_reads' ab.out).2.2 (ji3) ac ad
        cases al
        replace ac:=eq_true ac
        replace ad:=eq_true ad
        have q9:(aa:Int)≤((l0.length:Int):Int):=of_decide_eq_true ‹_›
        obtain⟨i09,au,_,aE,_⟩:=info_parts info127
        have ak:l0.length≤c0:=(Kd.V_reads' ab.out).2.1
        have hC9:Kd.F (Kd.int .u16) _ _ (some ag) l0.length l0:=(Kd.V_at (base:=w.heap.size) ab.out).2.2
        have ax:=cut_to (P:=Tryz.prog) 79 127 .i64 Tryz.underlying79 au (some ag) l0.length c0 aa (of_decide_eq_true ‹_›) q9 ak
        have hr9:=Kd.F_take (m:=(aa:Int).toNat) hC9 Y0
        have hy9:ah.length=(aa:Int).toNat:=(by rw[ao.out,List.length_take];omega)
        rw[←ao.out]at hr9
        rw[←hy9]at ax
        have ay:=Aside0.mk (show Kd.V (Kd.int .u16) 127 _ w.heap.size _ (.slice (some ag) ah.length c0) ah from Kd.V_mk Y0 hr9)
        have aG:=Aside0.mk (show ah.length≤c0 from by omega)
        clear hr9 hC9 ak au aE
        have KY9:=Aside0.mk hy9
        clear hy9
        replace q9:=eq_true q9
        go_wp2
        go_ret
        exact⟨_,F1,kvu ay.out,khu HB.out⟩
       rw[if_neg c8]at H
       exact absurd H B0
      rw[if_neg c7]at H
      exact absurd H B0
     rw[if_neg c5]at H
     exact absurd H B0
    rw[if_neg c4]at H
    exact absurd H B0
   rw[if_neg c2]at H
   have aB:decide (0<aa)=false:=decide_eq_false c2
   clear c2
   by_cases c10:0≤aa
   ·rw[if_pos c10]at H
    have aH:=eq_true c10
    have aI:decide (0≤aa)=true:=decide_eq_true c10
    clear c10
    by_cases c11:aa≤(l0.length:Int)
    ·rw[if_pos c11]at H
     have aJ:=eq_true c11
     have aK:decide (aa≤(l0.length:Int))=true:=decide_eq_true c11
     clear c11
     obtain⟨ai,af⟩:∃y_:List Int,y_=(l0.take (aa:Int).toNat):=⟨_,rfl⟩
     replace H:(some ai)=some r:=by first|(rw[af];with_reducible exact H)|(have H2_:=(Option.bind_some _ _).symm.trans H;rw[af];with_reducible exact H2_)|(have H2_:=(Option.bind_some _ _).symm.trans H;with_reducible exact H2_)|with_reducible exact H|(rw[af];exact H)|exact H
     have ap:=Aside0.mk af
     clear af
     obtain rfl:=Option.some.inj H
     have q12:(aa:Int)≤((l0.length:Int):Int):=of_decide_eq_true ‹_›
     obtain⟨i012,aq,_,az,_⟩:=info_parts info127
     have aj:l0.length≤c0:=(Kd.V_reads' ab.out).2.1
     have av:Kd.F (Kd.int .u16) _ _ A0 l0.length l0:=(Kd.V_at (base:=w.heap.size) ab.out).2.2
     have aw:=cut_to (P:=Tryz.prog) 79 127 .i64 Tryz.underlying79 aq A0 l0.length c0 aa (of_decide_eq_true ‹_›) q12 aj
     have am:=Kd.F_take (m:=(aa:Int).toNat) av Y0
     have an:ai.length=(aa:Int).toNat:=(by rw[ap.out,List.length_take];omega)
     rw[←ap.out]at am
     rw[←an]at aw
     have aA:=Aside0.mk (show Kd.V (Kd.int .u16) 127 _ w.heap.size _ (.slice A0 ai.length c0) ai from Kd.V_mk Y0 am)
     have aL:=Aside0.mk (show ai.length≤c0 from by omega)
     clear am av aj aq az
     have aS:=Aside0.mk an
     clear an
     replace q12:=eq_true q12
     go_wp2
     go_ret
     exact⟨_,J0,kvu aA.out,khu HB.out⟩
    rw[if_neg c11]at H
    exact absurd H B0
   rw[if_neg c10]at H
   exact absurd H B0
def tribunalref02_Make.f (k:Nat) (a0:Bool) (l1:List Int):Option (Bool×List Int):=(tribunalref02_trim.f k l1).bind fun t936=>(if a0=true then(some (decide (0<t936.length),t936)) else(some (false,t936)))
theorem tribunalref02_Make.calls (k:Nat) (a0:Bool) (P1_:Nat→Prop) (A1:Option Addr) (c1:Nat) (l1:List Int) (r1:Bool) (r2:List Int) (w:World) (hs1:Kd.V (Kd.int .u16) 127 w w.heap.size (fun k_=>P1_ k_) (.slice A1 l1.length c1) l1) (h:tribunalref02_Make.f k a0 l1=some (r1,r2)) :
  Calls Tryz.prog 92 #[.bool a0,.slice A1 l1.length c1] w fun e w'=>∃v1_:Value,e=.returned (.agg #[.bool r1,v1_])∧Kd.V (Kd.int .u16) 127 w' w.heap.size (fun k_=>(P1_ k_∨w.heap.size≤k_)) v1_ r2∧Below w.heap.size w w':=by
 have au:=Tryz.underlying81
 have HO1:=Aside0.mk (show Kd.V (Kd.int .u16) 127 w w.heap.size (fun k_=>(P1_ k_∨w.heap.size≤k_)) (.slice A1 l1.length c1) l1 from Kd.V_mono hs1 (fun k_ hk=>.inl hk))
 have HB:=Aside0.mk (Below.refl w.heap.size w)
 have H:((tribunalref02_trim.f k l1).bind fun ac=>(if a0=true then(some (decide (0<ac.length),ac)) else(some (false,ac))))=some (r1,r2):=h
 clear h
 replace H:=Option.bind_eq_some_iff.mp H
 obtain⟨ac,A30,H⟩:=H
 replace H:(if a0=true then(some (decide (0<ac.length),ac)) else(some (false,ac)))=some (r1,r2):=H
 have A3:=Aside0.mk A30
 clear A30
 by_cases c4:a0=true
 ·subst c4
  have H1:(some (decide (0<ac.length),ac))=some (r1,r2):=by rw[if_pos rfl]at H;exact H
  clear H
  have H:=H1
  clear H1
  simp only[Option.some.injEq,Prod.mk.injEq]at H
  obtain⟨rfl,rfl⟩:=H
  go_enter Tryz.func92,Tryz.ntmps92
  go_wp2_with (first|(refine gd 4 rfl ?_;(try(refine gate_guard F0 ?_;dsimp only));refine kbe 4 #[.bool false,.slice none 0 0] 81 ?_;intro aa hg w5 hbox hb;replace HO1:=Aside0.mk (Kd.V_below (Kd.V_elderB (kvu HO1.out) aa (Nat.le_of_eq hg.symm)) hb);have ab:=Aside0.mk (hbox);have ah:=kbz hg HB;have ae:=kbz hg HB;replace HB:=kbs HB hb;clear hb hbox hg)|((with_reducible refine gate_callee (f:=155) rfl ?_);refine kgl (some 6) rfl rfl Tryz.func155 #[.slice A1 l1.length c1] rfl ?_;(with_reducible refine(tribunalref02_trim.calls k (fun k_=>((P1_ k_∨w.heap.size≤k_)∧k_≠aa)) _ _ l1 ac _ ?side1 A3.out).mono ?_);(case side1=>exact HO1.out);rintro e w6 ⟨ai,rfl,ho0,hb⟩;refine⟨_,rfl,?_⟩;replace HO1:=kvb HO1 hb;have ad:=Aside0.mk (Kd.V_lower (Kd.V_mono (ok':=fun k_=>(P1_ k_∨w.heap.size≤k_)∧k_≠aa) ho0 (fun k_ hk_=>⟨Or.elim hk_ (fun hs_=>hs_.1) (fun hn_=>(.inr (Nat.le_trans (below_size (khu HB.out)) hn_))),Or.elim hk_ (fun hs_=>hs_.2) (kfb ab)⟩)) (below_size (khu HB.out)));replace ab:=kbb ab hb;replace HB:=kbs HB hb;(try clear hb);(try clear hb2);(try clear hk);(try clear hi);(try clear ho0);obtain⟨Ao7,co7,eo7⟩:=Kd.V_slice ad.out;subst eo7;have ao:w6.cell? ⟨aa,0,none⟩=some (.bool false):=(blk_cell ab.out 0).trans rfl;have ap:w6.cell? ⟨aa,1,none⟩=some (.slice none 0 0):=(blk_cell ab.out 1).trans rfl;have aq:=blk_frozen ab.out 0;have ar:=blk_frozen ab.out 1))
  refine bodyPost_ret (results_cell_row rfl _ _ aa 81 #[.bool (decide (0<ac.length)),.slice Ao7 ac.length co7] (0,0) _ rfl (kpu #[.bool (decide (0<ac.length)),.slice none 0 0] 1 (kpu #[.bool false,.slice none 0 0] 0 (kbu ab.out))) Tryz.underlying81 rfl Z0) rfl ?_
  exact⟨_,J0,by(with_reducible repeat (first|apply Kd.V_alloc|apply Kd.V_drewN|apply Kd.V_drew));exact Kd.V_mono (Kd.V_far (p:=⟨aa,1,none⟩) (Kd.V_far (p:=⟨aa,0,none⟩) (Kd.V_mono ad.out (fun k_ hk=>(⟨hk,hk.2⟩:_∧k_≠aa))) (fun _ hk=>hk.2) (.bool (decide (0<ac.length)))) (fun _ hk=>hk.2) (.slice Ao7 ac.length co7)) (fun _ hk=>hk.1.1),by repeat (first|(with_reducible first|exact HB.out|apply below_alloc|apply pw_below_drewN|apply below_drew1|refine below_set ?_ ae.out)|exact HB.out)⟩
 replace c4:=Bool.eq_false_iff.mpr c4
 subst c4
 have H1:(some (false,ac))=some (r1,r2):=by rw[if_neg (show ¬(false=true) by decide)]at H;exact H
 clear H
 have H:=H1
 clear H1
 simp only[Option.some.injEq,Prod.mk.injEq]at H
 obtain⟨rfl,rfl⟩:=H
 go_enter Tryz.func92,Tryz.ntmps92
 go_wp2_with (first|(refine gd 4 rfl ?_;(try(refine gate_guard F0 ?_;dsimp only));refine kbe 4 #[.bool false,.slice none 0 0] 81 ?_;intro aa hg w9 hbox hb;replace HO1:=Aside0.mk (Kd.V_below (Kd.V_elderB (kvu HO1.out) aa (Nat.le_of_eq hg.symm)) hb);have ab:=Aside0.mk (hbox);have ah:=kbz hg HB;have ae:=kbz hg HB;replace HB:=kbs HB hb;clear hb hbox hg)|((with_reducible refine gate_callee (f:=155) rfl ?_);refine kgl (some 6) rfl rfl Tryz.func155 #[.slice A1 l1.length c1] rfl ?_;(with_reducible refine(tribunalref02_trim.calls k (fun k_=>((P1_ k_∨w.heap.size≤k_)∧k_≠aa)) _ _ l1 ac _ ?side1 A3.out).mono ?_);(case side1=>exact HO1.out);rintro e w10 ⟨ai,rfl,ho0,hb⟩;refine⟨_,rfl,?_⟩;replace HO1:=kvb HO1 hb;have ad:=Aside0.mk (Kd.V_lower (Kd.V_mono (ok':=fun k_=>(P1_ k_∨w.heap.size≤k_)∧k_≠aa) ho0 (fun k_ hk_=>⟨Or.elim hk_ (fun hs_=>hs_.1) (fun hn_=>(.inr (Nat.le_trans (below_size (khu HB.out)) hn_))),Or.elim hk_ (fun hs_=>hs_.2) (kfb ab)⟩)) (below_size (khu HB.out)));replace ab:=kbb ab hb;replace HB:=kbs HB hb;(try clear hb);(try clear hb2);(try clear hk);(try clear hi);(try clear ho0);obtain⟨af,ag,aj⟩:=Kd.V_slice ad.out;subst aj;have ak:w10.cell? ⟨aa,0,none⟩=some (.bool false):=(blk_cell ab.out 0).trans rfl;have al:w10.cell? ⟨aa,1,none⟩=some (.slice none 0 0):=(blk_cell ab.out 1).trans rfl;have am:=blk_frozen ab.out 0;have an:=blk_frozen ab.out 1))
 refine bodyPost_ret (results_cell_row rfl _ _ aa 81 #[.bool false,.slice af ac.length ag] (0,0) _ rfl (kpu #[.bool false,.slice none 0 0] 1 (kpu #[.bool false,.slice none 0 0] 0 (kbu ab.out))) Tryz.underlying81 rfl Z0) rfl ?_
 exact⟨_,J0,by(with_reducible repeat (first|apply Kd.V_alloc|apply Kd.V_drewN|apply Kd.V_drew));exact Kd.V_mono (Kd.V_far (p:=⟨aa,1,none⟩) (Kd.V_far (p:=⟨aa,0,none⟩) (Kd.V_mono ad.out (fun k_ hk=>(⟨hk,hk.2⟩:_∧k_≠aa))) (fun _ hk=>hk.2) (.bool false)) (fun _ hk=>hk.2) (.slice af ac.length ag)) (fun _ hk=>hk.1.1),by repeat (first|(with_reducible first|exact HB.out|apply below_alloc|apply pw_below_drewN|apply below_drew1|refine below_set ?_ ae.out)|exact HB.out)⟩
def tribunalref02_From.l0:Nat→List Int→Int→Bool→List Int→Option (Bool×List Int)
 | 0,_,_,_,_=>none
 | k+1,x3,x4,x940000,x940001=>if x4<(x940001.length:Int) then(if 0≤x4 then((some (([IntKind.u16.wrap (rd x940001 x4),IntKind.u16.wrap ((rd x940001 x4)/65536),IntKind.u16.wrap ((rd x940001 x4)/4294967296),IntKind.u16.wrap ((rd x940001 x4)/281474976710656)]:List Int):List Int)).bind fun y942=>(if x3.length+y942.length<70368744177664 then(tribunalref02_From.l0 k (x3++y942) (wrap64 (x4+1)) x940000 x940001) else(none))) else(none)) else((tribunalref02_Make.f k x940000 x3).bind fun bt948=>(some (bt948.1,bt948.2)))
def tribunalref02_From.f (k:Nat) (a0_0:Bool) (l0_1:List Int):Option (Bool×List Int):=tribunalref02_From.l0 k ([]:List Int) 0 a0_0 l0_1
theorem tribunalref02_From.calls (k:Nat) (af:Bool) (an:Option Addr) (aj:Nat) (aa:List Int) (r1:Bool) (r2:List Int) (w:World) (aC:Kd.C (Kd.int .u64) w an aa.length aa) (aD:aa.length≤aj) (h:tribunalref02_From.f k af aa=some (r1,r2)) :
  Calls Tryz.prog 49 #[.agg #[.bool af,.slice an aa.length aj]] w fun e w'=>∃v1_:Value,e=.returned (.agg #[.bool r1,v1_])∧Kd.V (Kd.int .u16) 127 w' w.heap.size (fun k_=>(w.heap.size≤k_)) v1_ r2∧Below w.heap.size w w':=by
 have bz:=Tryz.underlying43
 have bA:=Tryz.underlying81
 have aP:=Aside0.mk aC
 have br:=Aside0.mk aD
 clear aC aD
 have HB:=Aside0.mk (Below.refl w.heap.size w)
 have H:(tribunalref02_From.l0 k ([]:List Int) 0 af aa)=some (r1,r2):=h
 clear h
 have H':=Aside0.mk H
 clear H
 go_enter Tryz.func49,Tryz.ntmps49
 go_wp2_with (first|(refine gd 1 rfl ?_;refine kbe 1 #[.bool af,.slice an aa.length aj] 43 ?_;intro ai hg w2 hbox hb;have ab:=Aside0.mk (hbox);have bu:=kbz hg HB;have aw:=kbz hg HB;replace HB:=kbs HB hb;clear hb hbox hg)|(refine gd 2 rfl ?_;refine kbe 2 #[.bool false,.slice none 0 0] 81 ?_;intro ag hg w3 hbox hb;have ad:=Aside0.mk (hbox);have bv:=kbz hg HB;have ax:=kbz hg HB;replace HB:=kbs HB hb;have ar:=knl hg ab;have au:=kng hg ab;replace ab:=kbb ab hb;clear hb hbox hg))
 go_loopg [3,4] k (fun kq v3 v4 w'=>∃(ah:List Int) (ac:Int),v4=.int .i64 ac∧Aside0 (tribunalref02_From.l0 kq ah ac af aa=some (r1,r2))∧Aside0 (kq≤k)∧Aside0 (Kd.R (Kd.int .u16) 127 w' w.heap.size (fun k_=>(w.heap.size≤k_)) v3 ah)∧Aside0 (w'.heap[ai]? = some (.cells #[.bool af,(.slice an aa.length aj)] 43 (0,0)))∧Aside0 (w'.heap[ag]? = some (.cells #[.bool false,(.slice none 0 0)] 81 (0,0)))∧Aside0 (Below w.heap.size w w'))
 case atStart=>exact⟨(([]:List Int)),(0),X0,H',⟨Nat.le_refl _⟩,⟨Y1⟩,⟨by(with_reducible repeat (first|refine blk_drewN ?_ _|refine blk_drew ?_|refine blk_alloc ?_ _));exact ab.out⟩,⟨by(with_reducible repeat (first|refine blk_drewN ?_ _|refine blk_drew ?_|refine blk_alloc ?_ _));exact ad.out⟩,⟨by repeat (first|(with_reducible first|exact HB.out|apply below_alloc|apply pw_below_drewN|apply below_drew1|refine below_set ?_ aw.out|refine below_set ?_ ax.out)|exact HB.out)⟩⟩
 case round=>
  clear H'
  try clear p2
  obtain⟨ah,ac,rfl,HA,HK1,ae,ab,ad,HB⟩:=hrel
  cases gk with
  | zero=>exact absurd HA.out (by simp[tribunalref02_From.l0])
  | succ k1=>
   have H:=HA.out
   clear HA
   simp only[tribunalref02_From.l0]at H
   by_cases c4:ac<(aa.length:Int)
   ·rw[if_pos c4]at H
    have aV:decide (ac<(aa.length:Int))=true:=decide_eq_true c4
    clear c4
    by_cases c5:0≤ac
    ·rw[if_pos c5]at H
     have bB:decide (0≤ac)=true:=decide_eq_true c5
     clear c5
     obtain⟨ao,ak⟩:∃y_:List Int,y_=(([IntKind.u16.wrap (rd aa ac),IntKind.u16.wrap ((rd aa ac)/65536),IntKind.u16.wrap ((rd aa ac)/4294967296),IntKind.u16.wrap ((rd aa ac)/281474976710656)]:List Int)):=⟨_,rfl⟩
     replace H:(if ah.length+ao.length<70368744177664 then(tribunalref02_From.l0 k1 (ah++ao) (wrap64 (ac+1)) af aa) else(none))=some (r1,r2):=by first|(rw[ak];with_reducible exact H)|(have H2_:=(Option.bind_some _ _).symm.trans H;rw[ak];with_reducible exact H2_)|(have H2_:=(Option.bind_some _ _).symm.trans H;with_reducible exact H2_)|with_reducible exact H|(rw[ak];exact H)|exact H
     have aE:=Aside0.mk ak
     clear ak
     by_cases c6:ah.length+ao.length<70368744177664
     ·rw[if_pos c6]at H
      have aW:=Aside0.mk c6
      clear c6
      obtain⟨aH,al⟩:∃y_:List Int,y_=(ah++ao):=⟨_,rfl⟩
      replace H:(tribunalref02_From.l0 k1 aH (wrap64 (ac+1)) af aa)=some (r1,r2):=by first|(rw[al];with_reducible exact H)|(have H2_:=(Option.bind_some _ _).symm.trans H;rw[al];with_reducible exact H2_)|(have H2_:=(Option.bind_some _ _).symm.trans H;with_reducible exact H2_)|with_reducible exact H|(rw[al];exact H)|exact H
      have aQ:=Aside0.mk al
      clear al
      have H':=Aside0.mk H
      clear H
      have bC:=ar.out
      have bD:=au.out
      have bn:wr.cell? ⟨ai,0,none⟩=some (.bool af):=(blk_cell ab.out 0).trans rfl
      have bo:wr.cell? ⟨ai,1,none⟩=some (.slice an aa.length aj):=(blk_cell ab.out 1).trans rfl
      have bp:=blk_frozen ab.out 0
      have bq:=blk_frozen ab.out 1
      have az:0≤(ac:Int):=of_decide_eq_true ‹_›
      have aA:ac<(aa.length:Int):=of_decide_eq_true ‹_›
      obtain⟨aT,aX,ap⟩:=Kd.at_int aP.out ac az aA
      cases aX
      replace ap:=(HB.out.cell (World.block_lt_of_cell? w _ ap)).trans ap
      replace az:=eq_true az
      replace aA:=eq_true aA
      go_wp2_with (first|(refine gd 30 rfl ?_;refine Kd.R_lit (Kd.int .u16) _ 127 ?hg (N:=30) ?hd (xs:=([IntKind.u16.wrap (rd aa ac),IntKind.u16.wrap ((rd aa ac)/65536),IntKind.u16.wrap ((rd aa ac)/4294967296),IntKind.u16.wrap ((rd aa ac)/281474976710656)]:List Int)) (inner:=[.int .u16 (IntKind.u16.wrap (rd aa ac)),.int .u16 (IntKind.u16.wrap ((rd aa ac)/65536)),.int .u16 (IntKind.u16.wrap ((rd aa ac)/4294967296)),.int .u16 (IntKind.u16.wrap ((rd aa ac)/281474976710656))]) (ok:=fun _=>True) (okp:=fun _=>True) ?hr ?hp (fun _ hk=>hk) trivial (Below.refl _ _) (Nat.le_refl _) B0 ?_;(case hd=>rfl);(case hg=>rfl);(case hr=>first|(go_simp;done)|(go_simp;rfl));(case hp=>exact(Reps.one (show Kd.M (Kd.int .u16) _ _ _ (IntKind.u16.wrap (rd aa ac)) [.int .u16 (IntKind.u16.wrap (rd aa ac))] from rfl) (Reps.one (show Kd.M (Kd.int .u16) _ _ _ (IntKind.u16.wrap ((rd aa ac)/65536)) [.int .u16 (IntKind.u16.wrap ((rd aa ac)/65536))] from rfl) (Reps.one (show Kd.M (Kd.int .u16) _ _ _ (IntKind.u16.wrap ((rd aa ac)/4294967296)) [.int .u16 (IntKind.u16.wrap ((rd aa ac)/4294967296))] from rfl) (Reps.one (show Kd.M (Kd.int .u16) _ _ _ (IntKind.u16.wrap ((rd aa ac)/281474976710656)) [.int .u16 (IntKind.u16.wrap ((rd aa ac)/281474976710656))] from rfl) (Reps.none _ _))))));intro bE w9 aq hb hg_ hnew_;clear hg_ hnew_;(first|rw[←aE.out]at aq|(simp only[Int.reduceToNat]at aq;rw[←aE.out]at aq));have am:=Aside0.mk (Kd.R_lower (Kd.R_new' (Kd.R_newM (M:=fun k_=>(w.heap.size≤k_)) aq (below_size (khu HB.out)) (fun k_ h_=>h_)) (Kd.R_lt (kru ae.out))) (below_size (khu HB.out)));replace ae:=Aside0.mk (Kd.R_elder' (kru ae.out) (Kd.R_base aq) hb);replace ab:=kbb ab hb;replace ad:=kbb ad hb;replace HB:=kbs HB hb;clear hb aq;obtain⟨aY,aZ,bb⟩:=Kd.R_slice am.out;subst bb)|((with_reducible refine gate_builtin (b:=.append) (xs:=#[.tmp 18,.tmp 30]) rfl ?_);at_builtin;refine Kd.R_append_rows (Kd.int .u16) (w0:=w) w.heap.size rfl (.tmp 18) (.tmp 30) 79 127 (.int .u16 0) 2 rfl Tryz.underlying79 info127 rfl V0 Y0 u3 ah ao _ _ _ (fun k_=>(w.heap.size≤k_)∧some k_≠(.slice aY ao.length aZ:Value).ownBlock) (fun _=>False) rfl rfl ?aO ?aR (fun _ _ h=>h) (fun _ h=>h.elim) ?aF ?aB ?aS ?aL ?_;(case aR=>repeat (first|exact(Kd.R_reads' am.out).2.2|(with_reducible refine Kd.C_alloc ?_ _)|(with_reducible refine Kd.C_drewN ?_ _)|(with_reducible refine Kd.C_drew ?_)));(case aB=>exact(khu HB.out));(case aF=>exact(fun k_ hk=>⟨(Nat.le_trans (below_size (khu HB.out)) hk),Kd.fresh' (Kd.R_lt (kru am.out)) k_ hk⟩));(case aO=>exact(kru ae.out));(case aS=>exact(below_size (khu HB.out)));(case aL=>have:=aW.out;omega);intro bF w11 ho hb hg hat;rw[←aQ.out]at ho;replace ab:=Aside0.mk (blk_grown (g:=ai) (o:=.cells #[.bool af,.slice (some aT) aa.length aj] 43 (0,0)) (kbu ab.out) hg (Kd.R_ne ae.out ab.out V0));replace ad:=Aside0.mk (blk_grown (g:=ag) (o:=.cells #[.bool false,.slice none 0 0] 81 (0,0)) (kbu ad.out) hg (Kd.R_ne ae.out ad.out V0));replace am:=Aside0.mk (Kd.R_after (ok:=(fun k_=>(w.heap.size≤k_))) (by(with_reducible repeat (first|apply Kd.R_alloc|apply Kd.R_drewN|apply Kd.R_drew));exact Kd.R_mono am.out (fun _ hk=>⟨hk.1.1,hk.2⟩)) hg hat);replace HB:=Aside0.mk (hb);have aU:=Aside0.mk (ho);clear ae;clear ho hb hg hat))
      go_roundg k1
      case measure=>have:=HK1.out;omega
      case rel=>exact⟨(aH),(wrap64 (ac+1)),X0,H',⟨Z2⟩,⟨by(with_reducible repeat (first|apply Kd.R_alloc|apply Kd.R_drewN|apply Kd.R_drew));exact Kd.R_mono aU.out (fun _ hk=>hk.1)⟩,⟨by(with_reducible repeat (first|refine blk_drewN ?_ _|refine blk_drew ?_|refine blk_alloc ?_ _));exact ab.out⟩,⟨by(with_reducible repeat (first|refine blk_drewN ?_ _|refine blk_drew ?_|refine blk_alloc ?_ _));exact ad.out⟩,⟨by repeat (first|(with_reducible first|exact HB.out|apply below_alloc|apply pw_below_drewN|apply below_drew1|refine below_set ?_ aw.out|refine below_set ?_ ax.out)|exact HB.out)⟩⟩
     rw[if_neg c6]at H
     exact absurd H B0
    rw[if_neg c5]at H
    exact absurd H B0
   rw[if_neg c4]at H
   have aV:decide (ac<(aa.length:Int))=false:=decide_eq_false c4
   clear c4
   replace H:=Option.bind_eq_some_iff.mp H
   obtain⟨⟨av,ay⟩,aI,H⟩:=H
   replace H:(some (av,ay))=some (r1,r2):=H
   have A13:=Aside0.mk aI
   clear aI
   simp only[Option.some.injEq,Prod.mk.injEq]at H
   obtain⟨rfl,rfl⟩:=H
   have bw:=ar.out
   have bx:=au.out
   have be:wr.cell? ⟨ai,0,none⟩=some (.bool af):=(blk_cell ab.out 0).trans rfl
   have bf:wr.cell? ⟨ai,1,none⟩=some (.slice an aa.length aj):=(blk_cell ab.out 1).trans rfl
   have bg:=blk_frozen ab.out 0
   have bh:=blk_frozen ab.out 1
   obtain⟨aJ,aK,bc⟩:=Kd.R_slice ae.out
   subst bc
   go_wp2_with (first|((with_reducible refine gate_callee (f:=92) rfl ?_);refine kgl (some 35) rfl rfl Tryz.func92 #[.bool af,.slice aJ ah.length aK] rfl ?_;(with_reducible refine(tribunalref02_Make.calls k1 af (fun k_=>some k_=(.slice aJ ah.length aK:Value).ownBlock) _ _ ah av ay _ ?side1 A13.out).mono ?_);(case side1=>exact Kd.R_V (Kd.R_tight rfl (Kd.R_types (Kd.R_types (ae.out) ab.out V0) ad.out V0)));rintro e w17 ⟨bG,rfl,ho0,hb⟩;refine⟨_,rfl,?_⟩;have aG:=Aside0.mk (Kd.V_lower (Kd.V_mono (ok':=fun k_=>(w.heap.size≤k_)∧k_≠ai∧k_≠ag) ho0 (fun k_ hk_=>⟨Or.elim hk_ (fun hs_=>((Kd.R_types (Kd.R_types (ae.out) ab.out V0) ad.out V0).1 k_ hs_.symm).1.1) (fun hn_=>(Nat.le_trans (below_size (khu HB.out)) hn_)),Or.elim hk_ (fun hs_=>((Kd.R_types (Kd.R_types (ae.out) ab.out V0) ad.out V0).1 k_ hs_.symm).1.2) (kfb ab),Or.elim hk_ (fun hs_=>((Kd.R_types (Kd.R_types (ae.out) ab.out V0) ad.out V0).1 k_ hs_.symm).2) (kfb ad)⟩)) (below_size (khu HB.out)));replace ae:=krb ae hb;replace ab:=kbb ab hb;replace ad:=kbb ad hb;replace HB:=kbs HB hb;(try clear hb);(try clear hb2);(try clear hk);(try clear hi);(try clear ho0);have bi:w17.cell? ⟨ag,0,none⟩=some (.bool false):=(blk_cell ad.out 0).trans rfl;have bj:w17.cell? ⟨ag,1,none⟩=some (.slice none 0 0):=(blk_cell ad.out 1).trans rfl;have bk:=blk_frozen ad.out 0;have bl:=blk_frozen ad.out 1;obtain⟨aM,aN,bd⟩:=Kd.V_slice aG.out;subst bd))
   refine bodyPost_ret (results_cell_row rfl _ _ ag 81 #[.bool av,.slice aM ay.length aN] (0,0) _ rfl (kpu #[.bool av,.slice none 0 0] 1 (kpu #[.bool false,.slice none 0 0] 0 (kbu ad.out))) Tryz.underlying81 rfl Z0) rfl ?_
   exact⟨_,J0,by(with_reducible repeat (first|apply Kd.V_alloc|apply Kd.V_drewN|apply Kd.V_drew));exact Kd.V_mono (Kd.V_far (p:=⟨ag,1,none⟩) (Kd.V_far (p:=⟨ag,0,none⟩) (Kd.V_mono aG.out (fun k_ hk=>(⟨hk,hk.2.2⟩:_∧k_≠ag))) (fun _ hk=>hk.2) (.bool av)) (fun _ hk=>hk.2) (.slice aM ay.length aN)) (fun _ hk=>hk.1.1),by repeat (first|(with_reducible first|exact HB.out|apply below_alloc|apply pw_below_drewN|apply below_drew1|refine below_set ?_ aw.out|refine below_set ?_ ax.out)|exact HB.out)⟩
def tribunalref09_U.f (k:Nat) (a0_0:Int) (l0_1:List Int):Option (Bool×List Int):=(tribunalref02_From.f k false l0_1).bind fun bt954=>(some (bt954.1,bt954.2))
theorem tribunalref09_U.calls (k:Nat) (ad:Int) (ab:Option Addr) (ac:Nat) (aa:List Int) (r1:Bool) (r2:List Int) (w:World) (ae:Kd.C (Kd.int .u64) w ab aa.length aa) (af:aa.length≤ac) (h:tribunalref09_U.f k ad aa=some (r1,r2)) :
  Calls Tryz.prog 46 #[.agg #[.int .i64 ad,.slice ab aa.length ac]] w fun e w'=>∃v1_:Value,e=.returned (.agg #[.bool r1,v1_])∧Kd.V (Kd.int .u16) 127 w' w.heap.size (fun k_=>(w.heap.size≤k_)) v1_ r2∧Below w.heap.size w w':=by
 have ag:=Tryz.underlying28
 have ah:=Tryz.underlying43
 have ai:=Tryz.underlying81
 have K:=Kp.refl w
 replace K:=K.parV (Kd.V_mono (ok':=fun k=>k<w.heap.size) (Kd.V_mk (e:=48) (base:=0) af (Kd.C_F (Kd.heap_int .u64) ae)) (fun _ h=>h))
 clear ae af
 try simp only[klv]at K
 rw[tribunalref09_U.f]at h
 replace h:=bindA h
 obtain⟨⟨z5,x6⟩,A7,h⟩:=h
 dsimp only at h
 simp only[Option.some.injEq,Prod.mk.injEq]at h
 obtain⟨rfl,rfl⟩:=h
 go_enter Tryz.func46,Tryz.ntmps46
 go_wp2_with (first|(refine gd 1 rfl ?_;refine kbk 1 #[.int .i64 ad,.slice ab aa.length ac] 28 K.u ?_;clear K;intro g1 W2 K)|(refine gd 2 rfl ?_;refine kbk 2 #[.bool false,.slice none 0 0] 81 K.u ?_;clear K;intro g3 W4 K;obtain⟨ua0,ub0⟩:=K.cell2 0 rfl)|(refine gd 6 rfl ?_;clear ua0 ub0;refine kgl (some 6) rfl rfl Tryz.func49 #[.agg #[.bool false,.slice ab aa.length ac]] rfl ?_;refine(tribunalref02_From.calls _ false _ _ aa z5 x6 _ (K.C 0 rfl) (K.le 0 rfl) A7.out).mono ?_;rintro e W10 ⟨v8,rfl,ho9,hb⟩;refine⟨_,rfl,?_⟩;replace K:=K.u.addF (fun _=>False) hb ho9;clear hb ho9;obtain⟨P11,c12,e13⟩:=K.slice 1 rfl;subst e13)|(refine gs 81 2 6 rfl ?_;refine ks2 1 (.bool z5) (.slice P11 x6.length c12) K.u rfl ?_;clear K;intro W14 K;simp only[kls,klv]at K))
 refine bodyPost_ret (results_single rfl (.cell g3 81 #[.bool z5,.slice P11 x6.length c12] (0,0) _ rfl (K.u.heap 1 rfl) Tryz.underlying81 rfl Z0 .nil)) rfl ?_
 exact⟨_,rfl,K.u.hand 1 rfl (fun _ h=>h.elim (fun h=>h.elim) id),K.u.below⟩
def tribunalref09_bit.f (a0_0:Int) (l0_1:List Int) (a1:Int):Option (Bool):=if(wrap64 (Int.tdiv a1 64))<(l0_1.length:Int) then(if 0≤(wrap64 (Int.tdiv a1 64)) then(if 0≤(IntKind.u64.wrap (Int.tmod a1 64)) then(some ((Go.bits .and .u64 (shr .u64 (rd l0_1 (wrap64 (Int.tdiv a1 64))) (IntKind.u64.wrap (Int.tmod a1 64))) 1)==1)) else(none)) else(none)) else(some false)
theorem tribunalref09_bit.calls (ad:Int) (ae:Option Addr) (af:Nat) (aa:List Int) (a1:Int) (r:Bool) (w:World) (an:Kd.C (Kd.int .u64) w ae aa.length aa) (ao:aa.length≤af) (h:tribunalref09_bit.f ad aa a1=some r) :
  Calls Tryz.prog 38 #[.agg #[.int .i64 ad,.slice ae aa.length af],.int .i64 a1] w fun e w'=>e=.returned (.bool r)∧Below w.heap.size w w':=by
 have aH:=Tryz.underlying28
 have aq:=Aside0.mk an
 have aD:=Aside0.mk ao
 clear an ao
 have HB:=Aside0.mk (Below.refl w.heap.size w)
 have H:(if(wrap64 (Int.tdiv a1 64))<(aa.length:Int) then(if 0≤(wrap64 (Int.tdiv a1 64)) then(if 0≤(IntKind.u64.wrap (Int.tmod a1 64)) then(some ((Go.bits .and .u64 (shr .u64 (rd aa (wrap64 (Int.tdiv a1 64))) (IntKind.u64.wrap (Int.tmod a1 64))) 1)==1)) else(none)) else(none)) else(some false))=some r:=h
 clear h
 by_cases c3:(wrap64 (Int.tdiv a1 64))<(aa.length:Int)
 ·rw[if_pos c3]at H
  have ap:decide ((wrap64 (Int.tdiv a1 64))<(aa.length:Int))=true:=decide_eq_true c3
  clear c3
  obtain⟨ji4,ah⟩:∃j_:Int,(wrap64 (Int.tdiv a1 64))=j_:=⟨_,rfl⟩
  replace H:(if 0≤(ji4) then(if 0≤(IntKind.u64.wrap (Int.tmod a1 64)) then(some ((Go.bits .and .u64 (shr .u64 (rd aa (ji4)) (IntKind.u64.wrap (Int.tmod a1 64))) 1)==1)) else(none)) else(none))=some r:=by first|(rw[ah]at H;exact H)|(simp only[ah]at H ⊢;exact H)
  (try rw[ah]at ap)
  have aE:(IntKind.i64.wrap (Int.tdiv a1 64))=ji4:=(i64_w _).trans ah
  by_cases c5:0≤(ji4)
  ·rw[if_pos c5]at H
   have aI:decide (0≤(ji4))=true:=decide_eq_true c5
   clear c5
   obtain⟨ji6,ak⟩:∃j_:Int,(IntKind.u64.wrap (Int.tmod a1 64))=j_:=⟨_,rfl⟩
   replace H:(if 0≤(ji6) then(some ((Go.bits .and .u64 (shr .u64 (rd aa (ji4)) (ji6)) 1)==1)) else(none))=some r:=by first|(rw[ak]at H;exact H)|(simp only[ak]at H ⊢;exact H)
   by_cases c7:0≤(ji6)
   ·rw[if_pos c7]at H
    have aJ:=eq_true c7
    have aK:decide (0≤(ji6))=true:=decide_eq_true c7
    clear c7
    obtain⟨ji8,ai⟩:∃j_:Int,(shr .u64 (rd aa (ji4)) (ji6))=j_:=⟨_,rfl⟩
    replace H:(some ((Go.bits .and .u64 (ji8) 1)==1))=some r:=by first|(rw[ai]at H;exact H)|(simp only[ai]at H ⊢;exact H)
    have hji8_:((rd aa (ji4))/2^min (ji6).toNat 64)=ji8:=ai
    have aF:(ji6)≤64→((rd aa (ji4))/2^(ji6).toNat)=ji8:=shr_small ai
    obtain rfl:=Option.some.inj H
    go_enter Tryz.func38,Tryz.ntmps38
    go_wp2_with (first|(with_reducible refine gd 2 rfl ?_;refine kbe 2 #[.int .i64 ad,.slice ae aa.length af] 28 ?_;intro ac hg w9 hbox hb;have ab:=Aside0.mk (hbox);have ar:=kbz hg HB;have aj:=kbz hg HB;replace HB:=kbs HB hb;clear hb hbox hg;have av:w9.cell? ⟨ac,0,none⟩=some (.int .i64 ad):=(blk_cell ab.out 0).trans rfl;have aw:w9.cell? ⟨ac,1,none⟩=some (.slice ae aa.length af):=(blk_cell ab.out 1).trans rfl;have ax:=blk_frozen ab.out 0;have ay:=blk_frozen ab.out 1;have al:0≤((ji4):Int):=of_decide_eq_true ‹_›;have am:(ji4)<(aa.length:Int):=of_decide_eq_true ‹_›;obtain⟨aG,au,ag⟩:=Kd.at_int aq.out (ji4) al am;cases au;replace ag:=(HB.out.cell (World.block_lt_of_cell? w _ ag)).trans ag;replace al:=eq_true al;replace am:=eq_true am))
    go_ret
    exact⟨by first|rfl|(simp[errW_none,errW_some]<;>rfl)|(simp only[←ah,←ak,←ai];first|rfl|(simp[errW_none,errW_some]<;>rfl))|(simp[*,errW_none,errW_some]<;>rfl),by repeat (first|(with_reducible first|exact HB.out|apply below_alloc|apply pw_below_drewN|apply below_drew1|refine below_set ?_ aj.out)|exact HB.out)⟩
   rw[if_neg c7]at H
   exact absurd H B0
  rw[if_neg c5]at H
  exact absurd H B0
 rw[if_neg c3]at H
 have ap:decide ((wrap64 (Int.tdiv a1 64))<(aa.length:Int))=false:=decide_eq_false c3
 clear c3
 obtain rfl:=Option.some.inj H
 go_enter Tryz.func38,Tryz.ntmps38
 go_wp2_with (first|(with_reducible refine gd 2 rfl ?_;refine kbe 2 #[.int .i64 ad,.slice ae aa.length af] 28 ?_;intro ac hg w11 hbox hb;have ab:=Aside0.mk (hbox);have ar:=kbz hg HB;have aj:=kbz hg HB;replace HB:=kbs HB hb;clear hb hbox hg;have az:w11.cell? ⟨ac,0,none⟩=some (.int .i64 ad):=(blk_cell ab.out 0).trans rfl;have aA:w11.cell? ⟨ac,1,none⟩=some (.slice ae aa.length af):=(blk_cell ab.out 1).trans rfl;have aB:=blk_frozen ab.out 0;have aC:=blk_frozen ab.out 1))
 go_ret
 exact⟨J0,by repeat (first|(with_reducible first|exact HB.out|apply below_alloc|apply pw_below_drewN|apply below_drew1|refine below_set ?_ aj.out)|exact HB.out)⟩
def tribunalref09_Power.f (k:Nat) (a0:Int):Option (Bool×List Int):=if 0≤(wrap64 ((wrap64 (Int.tdiv a0 64))+1)) then(if(wrap64 ((wrap64 (Int.tdiv a0 64))+1):Int).toNat≤35184372088832 then((some (List.replicate (wrap64 ((wrap64 (Int.tdiv a0 64))+1):Int).toNat 0:List Int)).bind fun y961=>(if 0≤(IntKind.u64.wrap (Int.tmod a0 64)) then(if 0≤(wrap64 (Int.tdiv a0 64)) then(if(wrap64 (Int.tdiv a0 64))<(y961.length:Int) then((tribunalref02_From.f k false (y961.set ((wrap64 (Int.tdiv a0 64)):Int).toNat (shl .u64 1 (IntKind.u64.wrap (Int.tmod a0 64))))).bind fun bt965=>(some (bt965.1,bt965.2))) else(none)) else(none)) else(none))) else(none)) else(none)
theorem tribunalref09_Power.calls (k:Nat) (a0:Int) (r1:Bool) (r2:List Int) (w:World) (h:tribunalref09_Power.f k a0=some (r1,r2)) :
  Calls Tryz.prog 79 #[.int .i64 a0] w fun e w'=>∃v1_:Value,e=.returned (.agg #[.bool r1,v1_])∧Kd.V (Kd.int .u16) 127 w' w.heap.size (fun k_=>(w.heap.size≤k_)) v1_ r2∧Below w.heap.size w w':=by
 have aT:=Tryz.underlying81
 have aU:=Tryz.underlying43
 have HB:=Aside0.mk (Below.refl w.heap.size w)
 have H:(if 0≤(wrap64 ((wrap64 (Int.tdiv a0 64))+1)) then(if(wrap64 ((wrap64 (Int.tdiv a0 64))+1):Int).toNat≤35184372088832 then((some (List.replicate (wrap64 ((wrap64 (Int.tdiv a0 64))+1):Int).toNat 0:List Int)).bind fun ab=>(if 0≤(IntKind.u64.wrap (Int.tmod a0 64)) then(if 0≤(wrap64 (Int.tdiv a0 64)) then(if(wrap64 (Int.tdiv a0 64))<(ab.length:Int) then((tribunalref02_From.f k false (ab.set ((wrap64 (Int.tdiv a0 64)):Int).toNat (shl .u64 1 (IntKind.u64.wrap (Int.tmod a0 64))))).bind fun aa=>(some (aa.1,aa.2))) else(none)) else(none)) else(none))) else(none)) else(none))=some (r1,r2):=h
 clear h
 obtain⟨ji2,an⟩:∃j_:Int,(wrap64 ((wrap64 (Int.tdiv a0 64))+1))=j_:=⟨_,rfl⟩
 replace H:(if 0≤(ji2) then(if(ji2:Int).toNat≤35184372088832 then((some (List.replicate (ji2:Int).toNat 0:List Int)).bind fun ab=>(if 0≤(IntKind.u64.wrap (Int.tmod a0 64)) then(if 0≤(wrap64 (Int.tdiv a0 64)) then(if(wrap64 (Int.tdiv a0 64))<(ab.length:Int) then((tribunalref02_From.f k false (ab.set ((wrap64 (Int.tdiv a0 64)):Int).toNat (shl .u64 1 (IntKind.u64.wrap (Int.tmod a0 64))))).bind fun aa=>(some (aa.1,aa.2))) else(none)) else(none)) else(none))) else(none)) else(none))=some (r1,r2):=by first|(rw[an]at H;exact H)|(simp only[an]at H ⊢;exact H)
 have aO:(IntKind.i64.wrap ((wrap64 (Int.tdiv a0 64))+1))=ji2:=(i64_w _).trans an
 by_cases c3:0≤(ji2)
 ·rw [if_pos c3]at H
  have aV:=eq_true c3
  have aW:decide (0≤(ji2))=true:=decide_eq_true c3
  clear c3
  by_cases c4:(ji2:Int).toNat≤35184372088832
  ·rw [if_pos c4]at H
   have aX:=eq_true c4
   have aY:decide ((ji2:Int).toNat≤35184372088832)=true:=decide_eq_true c4
   clear c4
   obtain⟨ab,ag⟩:∃y_:List Int,y_=(List.replicate (ji2:Int).toNat 0):=⟨_,rfl⟩
   replace H:(if 0≤(IntKind.u64.wrap (Int.tmod a0 64)) then(if 0≤(wrap64 (Int.tdiv a0 64)) then(if(wrap64 (Int.tdiv a0 64))<(ab.length:Int) then((tribunalref02_From.f k false (ab.set ((wrap64 (Int.tdiv a0 64)):Int).toNat (shl .u64 1 (IntKind.u64.wrap (Int.tmod a0 64))))).bind fun aa=>(some (aa.1,aa.2))) else(none)) else(none)) else(none))=some (r1,r2):=by first|(rw[ag];with_reducible exact H)|(have H2_:=(Option.bind_some _ _).symm.trans H;rw[ag];with_reducible exact H2_)|(have H2_:=(Option.bind_some _ _).symm.trans H;with_reducible exact H2_)|with_reducible exact H|(rw[ag];exact H)|exact H
   have au:=Aside0.mk ag
   clear ag
   obtain⟨ji5,hji5⟩:∃j_:Int,(IntKind.u64.wrap (Int.tmod a0 64))=j_:=⟨_,rfl⟩
   replace H:(if 0≤(ji5) then(if 0≤(wrap64 (Int.tdiv a0 64)) then(if(wrap64 (Int.tdiv a0 64))<(ab.length:Int) then((tribunalref02_From.f k false (ab.set ((wrap64 (Int.tdiv a0 64)):Int).toNat (shl .u64 1 (ji5)))).bind fun aa=>(some (aa.1,aa.2))) else(none)) else(none)) else(none))=some (r1,r2):=by first|(rw[hji5]at H;exact H)|(simp only[hji5]at H ⊢;exact H)
   by_cases c6:0≤(ji5)
   ·rw[if_pos c6]at H
    have aZ:=eq_true c6
    have bb:decide (0≤(ji5))=true:=decide_eq_true c6
    clear c6
    obtain⟨ji7,aj⟩:∃j_:Int,(shl .u64 1 (ji5))=j_:=⟨_,rfl⟩
    replace H:(if 0≤(wrap64 (Int.tdiv a0 64)) then(if(wrap64 (Int.tdiv a0 64))<(ab.length:Int) then((tribunalref02_From.f k false (ab.set ((wrap64 (Int.tdiv a0 64)):Int).toNat (ji7))).bind fun aa=>(some (aa.1,aa.2))) else(none)) else(none))=some (r1,r2):=by first|(rw[aj]at H;exact H)|(simp only[aj]at H ⊢;exact H)
    have hji7_:(IntKind.u64.wrap (1*2^min (ji5).toNat 64))=ji7:=aj
    have aC:(ji5)≤64→(IntKind.u64.wrap (1*2^(ji5).toNat))=ji7:=shl_small aj
    have aP:(IntKind.u64.wrap (2^min (ji5).toNat 64))=ji7:=by have h_:=hji7_;rw[Int.one_mul]at h_;exact h_
    have aQ:(ji5)≤64→(IntKind.u64.wrap (2^(ji5).toNat))=ji7:=fun hle_=>by have h_:=aC hle_;rw[Int.one_mul]at h_;exact h_
    obtain⟨ji8,af⟩:∃j_:Int,(wrap64 (Int.tdiv a0 64))=j_:=⟨_,rfl⟩
    replace H:(if 0≤(ji8) then(if(ji8)<(ab.length:Int) then((tribunalref02_From.f k false (ab.set ((ji8):Int).toNat (ji7))).bind fun aa=>(some (aa.1,aa.2))) else(none)) else(none))=some (r1,r2):=by first|(rw[af]at H;exact H)|(simp only[af]at H ⊢;exact H)
    have ao:(IntKind.i64.wrap (Int.tdiv a0 64))=ji8:=(i64_w _).trans af
    by_cases c9:0≤(ji8)
    ·rw[if_pos c9]at H
     have bc:decide (0≤(ji8))=true:=decide_eq_true c9
     clear c9
     by_cases c10:(ji8)<(ab.length:Int)
     ·rw[if_pos c10]at H
      have aR:decide ((ji8)<(ab.length:Int))=true:=decide_eq_true c10
      clear c10
      obtain⟨ai,ah⟩:∃y_:List Int,y_=(ab.set ((ji8):Int).toNat (ji7)):=⟨_,rfl⟩
      replace H:((tribunalref02_From.f k false ai).bind fun aa=>(some (aa.1,aa.2)))=some (r1,r2):=by first|(rw[ah];with_reducible exact H)|(have H2_:=(Option.bind_some _ _).symm.trans H;rw[ah];with_reducible exact H2_)|(have H2_:=(Option.bind_some _ _).symm.trans H;with_reducible exact H2_)|with_reducible exact H|(rw[ah];exact H)|exact H
      have aD:=Aside0.mk ah
      clear ah
      replace H:=Option.bind_eq_some_iff.mp H
      obtain⟨⟨ak,ap⟩,aw,H⟩:=H
      replace H:(some (ak,ap))=some (r1,r2):=H
      have A12:=Aside0.mk aw
      clear aw
      simp only[Option.some.injEq,Prod.mk.injEq]at H
      obtain⟨rfl,rfl⟩:=H
      have hjx_:=Aside0.mk af
      have hjw_:=Aside0.mk ao
      clear af ao
      go_enter Tryz.func79,Tryz.ntmps79
      go_wp2_with (first|(refine gd 2 rfl ?_;refine kbe 2 #[.bool false,.slice none 0 0] 81 ?_;intro ae hg w13 hbox hb;have ad:=Aside0.mk (hbox);have aS:=kbz hg HB;have aE:=kbz hg HB;replace HB:=kbs HB hb;clear hb hbox hg)|(refine gd 7 rfl ?_;refine Kd.R_make (Kd.int .u64) _ 48 rfl (N:=7) rfl 26 _ _ rfl ji2 rfl rfl Tryz.underlying26 (.int .u64 0) 8 info48 rfl V0 Y0 0 (ok:=fun _=>True) (okp:=fun _=>True) rfl (fun _ hk=>hk) trivial (of_decide_eq_true ‹_›) (Nat.le_trans (Nat.mul_le_mul_right _ (of_decide_eq_true ‹_›:ji2.toNat≤35184372088832)) Y0) (Below.refl _ _) (Nat.le_refl _) ?_;intro bd w14 al hb hg_ hnew_;clear hg_ hnew_;(first|rw[←au.out]at al|(simp only[Int.reduceToNat]at al;rw[←au.out]at al));have af:=hjx_.out;have ao:=hjw_.out;have ac:=Aside0.mk (Kd.R_lower (Kd.R_newM (M:=fun k_=>(w.heap.size≤k_)) al (below_size (khu HB.out)) (fun k_ h_=>h_)) (below_size (khu HB.out)));replace ad:=kbb ad hb;replace HB:=kbs HB hb;clear hb al;have p11:0≤((ji8):Int):=of_decide_eq_true ‹_›;have q11:((ji8):Int)<((ab.length:Int):Int):=of_decide_eq_true ‹_›;obtain⟨am,aq,ax,ay,aF,be,az⟩:=Kd.R_form ac.out Y0;(first|cases ax|(injection ax with ea_ en_ ec_;(first|subst ea_|(injection ea_ with ea_;subst ea_));subst ec_;clear en_));have aG:=Aside0.mk ay;have bf:=Aside0.mk az;clear ay aF az;obtain⟨aM,aN⟩:=Kd.R_celln 0 ac.out ((ji8):Int) p11 q11;replace p11:=eq_true p11;replace q11:=eq_true q11;have n_:=Aside0.mk (Kd.R_mono (ok':=(fun k_=>(w.heap.size≤k_))) ac.out (fun k_ hk=>hk.1));clear ac;have ac:=n_;clear n_;obtain⟨hy16_,hz16_⟩:=Kd.R_celln 0 ac.out ((ji8):Int) (of_decide_eq_true ‹_›) (of_decide_eq_true ‹_›);have ar:=Kd.R_putg ac.out ((ji8):Int) ji7)|((with_reducible refine gate_store (t:=48) (p:=15) rfl ?_);refine store_event (t:=48) (p:=15) (v:=?vo_w17) (w1:=(w14.setCell ⟨am,((ji8):Int).toNat,none⟩ (.int .u64 ji7))) ?hg ?ho ?hn ?hr ?_;(case ho=>rfl);(case hg=>rfl);(case hn=>rfl);(case hr=>first|(go_simp;done)|(go_simp;rfl));intro w17 hw;have hg:w14.grownBy w17 (some am):=(by rw[hw];exact ar.2);have hp_:Kd.R (Kd.int .u64) 48 w17 w.heap.size (fun k_=>(w.heap.size≤k_)) (.slice (some ⟨am,0,none⟩) ab.length aq) ai:=(by rw[hw,aD.out];exact ar.1);clear ar;replace ad:=Aside0.mk (blk_grown (g:=ae) (o:=.cells #[.bool false,.slice none 0 0] 81 (0,0)) (kbu ad.out) hg (Kd.R_ne ac.out ad.out V0));replace ac:=Aside0.mk (hp_);replace HB:=Aside0.mk ((by rw[hw];exact below_set (HB.out) aG.out:Below w.heap.size w w17));clear hg hw hp_)|((with_reducible refine gate_callee (f:=49) rfl ?_);refine goesL_ (some 18) rfl rfl Tryz.func49 Z0 rfl #[.agg #[.bool false,.slice (some ⟨am,0,none⟩) ai.length aq]] rfl (by(try simp only[List.map_toArray,List.map_cons,List.map_nil]);first|done|(rw[show ai.length=ab.length from(Kd.R_reads' ac.out).1.symm]<;>rfl)|rfl|(simp only[List.length_drop,List.length_take];rfl)) ?_;(with_reducible refine(tribunalref02_From.calls k false _ _ ai ak ap _ ?side1 ?side2 A12.out).mono ?_);(case side1=>repeat (first|exact(Kd.R_reads' ac.out).2.2|(with_reducible refine Kd.C_alloc ?_ _)|(with_reducible refine Kd.C_drewN ?_ _)|(with_reducible refine Kd.C_drew ?_)));(case side2=>rw[show ai.length=ab.length from(Kd.R_reads' ac.out).1.symm];exact(Kd.R_reads' ac.out).2.1);rintro e w18 ⟨bg,rfl,ho0,hb⟩;refine⟨_,rfl,?_⟩;have av:=Aside0.mk (Kd.V_lower (Kd.V_mono (ok':=fun k_=>(w.heap.size≤k_)∧some k_≠(.slice (some ⟨am,0,none⟩) ab.length aq:Value).ownBlock∧k_≠ae) ho0 (fun k_ hk_=>⟨(Nat.le_trans (below_size (khu HB.out)) hk_),(Kd.fresh' (Kd.R_lt (kru ac.out)) k_ hk_),(kfb ad hk_)⟩)) (below_size (khu HB.out)));replace ac:=krb ac hb;replace ad:=kbb ad hb;replace HB:=kbs HB hb;(try clear hb);(try clear hb2);(try clear hk);(try clear hi);(try clear ho0);have aI:w18.cell? ⟨ae,0,none⟩=some (.bool false):=(blk_cell ad.out 0).trans rfl;have aJ:w18.cell? ⟨ae,1,none⟩=some (.slice none 0 0):=(blk_cell ad.out 1).trans rfl;have aK:=blk_frozen ad.out 0;have aL:=blk_frozen ad.out 1;obtain⟨aA,aB,aH⟩:=Kd.V_slice av.out;subst aH))
      refine bodyPost_ret (results_cell_row rfl _ _ ae 81 #[.bool ak,.slice aA ap.length aB] (0,0) _ rfl (kpu #[.bool ak,.slice none 0 0] 1 (kpu #[.bool false,.slice none 0 0] 0 (kbu ad.out))) Tryz.underlying81 rfl Z0) rfl ?_
      exact⟨_,by first|rfl|(simp[errW_none,errW_some]<;>rfl)|(simp only[←an,←hji5,←aj,←af];first|rfl|(simp[errW_none,errW_some]<;>rfl))|(simp[*,errW_none,errW_some]<;>rfl),by(with_reducible repeat (first|apply Kd.V_alloc|apply Kd.V_drewN|apply Kd.V_drew));exact Kd.V_mono (Kd.V_far (p:=⟨ae,1,none⟩) (Kd.V_far (p:=⟨ae,0,none⟩) (Kd.V_mono av.out (fun k_ hk=>(⟨hk,hk.2.2⟩:_∧k_≠ae))) (fun _ hk=>hk.2) (.bool ak)) (fun _ hk=>hk.2) (.slice aA ap.length aB)) (fun _ hk=>hk.1.1),by repeat (first|(with_reducible first|exact HB.out|apply below_alloc|apply pw_below_drewN|apply below_drew1|refine below_set ?_ aE.out)|exact HB.out)⟩
     rw[if_neg c10]at H
     exact absurd H B0
    rw[if_neg c9]at H
    exact absurd H B0
   rw[if_neg c6]at H
   exact absurd H B0
  rw[if_neg c4]at H
  exact absurd H B0
 rw[if_neg c3]at H
 exact absurd H B0
def tribunalref02_Minus.f (k:Nat) (a0_0:Bool) (l0_1:List Int):Option (Bool×List Int):=(tribunalref02_Make.f k (!a0_0) l0_1).bind fun bt971=>(some (bt971.1,bt971.2))
theorem tribunalref02_Minus.calls (k:Nat) (ab:Bool) (P0_1_:Nat→Prop) (ac:Option Addr) (ad:Nat) (aa:List Int) (r1:Bool) (r2:List Int) (w:World) (ae:Kd.V (Kd.int .u16) 127 w w.heap.size (fun k_=>P0_1_ k_) (.slice ac aa.length ad) aa) (h:tribunalref02_Minus.f k ab aa=some (r1,r2)) :
  Calls Tryz.prog 80 #[.agg #[.bool ab,.slice ac aa.length ad]] w fun e w'=>∃v1_:Value,e=.returned (.agg #[.bool r1,v1_])∧Kd.V (Kd.int .u16) 127 w' w.heap.size (fun k_=>(P0_1_ k_∨w.heap.size≤k_)) v1_ r2∧Below w.heap.size w w':=by
 have af:=Tryz.underlying81
 have K:=Kp.refl w
 replace K:=K.parV (Kd.V_mono (ok':=fun k=>P0_1_ k) ae (fun _ h=>h))
 clear ae
 try simp only[klv]at K
 rw[tribunalref02_Minus.f]at h
 replace h:=bindA h
 obtain⟨⟨z5,x6⟩,A7,h⟩:=h
 dsimp only at h
 simp only[Option.some.injEq,Prod.mk.injEq]at h
 obtain⟨rfl,rfl⟩:=h
 go_enter Tryz.func80,Tryz.ntmps80
 go_wp2_with (first|(refine gd 1 rfl ?_;refine kbk 1 #[.bool ab,.slice ac aa.length ad] 81 K.u ?_;clear K;intro g1 W2 K)|(refine gd 2 rfl ?_;refine kbk 2 #[.bool false,.slice none 0 0] 81 K.u ?_;clear K;intro g3 W4 K;obtain⟨ua0,ub0⟩:=K.cell2 0 rfl)|(refine gd 8 rfl ?_;clear ua0 ub0;refine kgl (some 8) rfl rfl Tryz.func92 #[.bool !ab,.slice ac aa.length ad] rfl ?_;refine(tribunalref02_Make.calls _ (!ab) _ _ _ aa z5 x6 _ (K.V 0 rfl) A7.out).mono ?_;rintro e W10 ⟨v8,rfl,ho9,hb⟩;refine⟨_,rfl,?_⟩;replace K:=K.u.add (fun k=>P0_1_ k) hb ho9 (fun _ h=>h);clear hb ho9;obtain⟨P11,c12,e13⟩:=K.slice 1 rfl;subst e13)|(refine gs 81 2 8 rfl ?_;refine ks2 1 (.bool z5) (.slice P11 x6.length c12) K.u rfl ?_;clear K;intro W14 K;simp only[kls,klv]at K))
 refine bodyPost_ret (results_single rfl (.cell g3 81 #[.bool z5,.slice P11 x6.length c12] (0,0) _ rfl (K.u.heap 1 rfl) Tryz.underlying81 rfl Z0 .nil)) rfl ?_
 exact⟨_,rfl,K.u.hand 1 rfl (fun k_ h=>h.elim (fun h=>.inl h) .inr),K.u.below⟩
mutual
def tribunalref02_addD.l0:Nat→List Int→List Int→List Int→Int→Int→Option (List Int)
 | 0,_,_,_,_,_=>none
 | k+1,x0,x1,x5,x6,x7=>if x7<(x0.length:Int) then(tribunalref02_addD.j1 k x0 x1 x5 x6 x7 true) else(if x7<(x1.length:Int) then(tribunalref02_addD.j1 k x0 x1 x5 x6 x7 true) else(tribunalref02_addD.j1 k x0 x1 x5 x6 x7 (decide (x6>0))))
def tribunalref02_addD.j1:Nat→List Int→List Int→List Int→Int→Int→Bool→Option (List Int)
 | 0,_,_,_,_,_,_=>none
 | k+1,x0,x1,x5,x6,x7,x21=>if x21=true then(if x7<(x0.length:Int) then(if 0≤x7 then(if x7<(x1.length:Int) then(if x5.length<70368744177664 then(tribunalref02_addD.l0 k x0 x1 (x5++[IntKind.u16.wrap (((x6+(rd x0 x7))+(rd x1 x7))%4294967296)]) ((((x6+(rd x0 x7))+(rd x1 x7))%4294967296)/65536) (wrap64 (x7+1))) else(none)) else(if x5.length<70368744177664 then(tribunalref02_addD.l0 k x0 x1 (x5++[IntKind.u16.wrap ((x6+(rd x0 x7))%4294967296)]) (((x6+(rd x0 x7))%4294967296)/65536) (wrap64 (x7+1))) else(none))) else(none)) else(if x7<(x1.length:Int) then(if 0≤x7 then(if x5.length<70368744177664 then(tribunalref02_addD.l0 k x0 x1 (x5++[IntKind.u16.wrap ((x6+(rd x1 x7))%4294967296)]) (((x6+(rd x1 x7))%4294967296)/65536) (wrap64 (x7+1))) else(none)) else(none)) else(if x5.length<70368744177664 then(tribunalref02_addD.l0 k x0 x1 (x5++[IntKind.u16.wrap (x6)]) (x6/65536) (wrap64 (x7+1))) else(none)))) else(some x5)
end
def tribunalref02_addD.f (k:Nat) (l0:List Int) (l1:List Int):Option (List Int):=tribunalref02_addD.l0 k l0 l1 ([]:List Int) 0 0
theorem tribunalref02_addD.calls (k:Nat) (A0:Option Addr) (c0:Nat) (l0:List Int) (A1:Option Addr) (c1:Nat) (l1:List Int) (r:List Int) (w:World) (hr0:Kd.C (Kd.int .u16) w A0 l0.length l0) (hc0:l0.length≤c0) (hr1:Kd.C (Kd.int .u16) w A1 l1.length l1) (hc1:l1.length≤c1) (h:tribunalref02_addD.f k l0 l1=some r) :
  Calls Tryz.prog 150 #[.slice A0 l0.length c0,.slice A1 l1.length c1] w fun e w'=>∃v0_:Value,e=.returned (v0_)∧Kd.R (Kd.int .u16) 127 w' w.heap.size (fun _=>True) v0_ r∧Below w.heap.size w w':=by
 have HR0:=Aside0.mk hr0
 have HC0:=Aside0.mk hc0
 clear hr0 hc0
 have HR1:=Aside0.mk hr1
 have HC1:=Aside0.mk hc1
 clear hr1 hc1
 have HB:=Aside0.mk (Below.refl w.heap.size w)
 have H:(tribunalref02_addD.l0 k l0 l1 ([]:List Int) 0 0)=some r:=h
 clear h
 have H':=Aside0.mk H
 clear H
 go_enter Tryz.func150,Tryz.ntmps150
 go_wp2
 go_loopg [5,6,7] k (fun kq v5 v6 v7 w'=>∃(ac:List Int) (ab:Int) (aa:Int),v6=.int .u32 ab∧v7=.int .i64 aa∧Aside0 (tribunalref02_addD.l0 kq l0 l1 ac ab aa=some r)∧Aside0 (kq≤k)∧Aside0 (Kd.R (Kd.int .u16) 127 w' w.heap.size (fun _=>True) v5 ac)∧Aside0 (Below w.heap.size w w'))
 case atStart=>exact⟨(([]:List Int)),(0),(0),X0,X0,H',⟨Nat.le_refl _⟩,⟨Y1⟩,⟨khu HB.out⟩⟩
 case round=>
  clear H'
  try clear c1
  try clear p2
  obtain⟨ac,ab,aa,rfl,rfl,HA,HK1,ad,HB⟩:=hrel
  cases gk with
  | zero=>exact absurd HA.out (by simp[tribunalref02_addD.l0])
  | succ k1=>
   have H:=HA.out
   clear HA
   simp only[tribunalref02_addD.l0]at H
   have HC3:=Aside0.mk H
   clear H
   go_upto_region 4 with(fail)
   go_cut [21] (fun v21 wc=>∃(kq:Nat) (ao:Bool),v21=.bool ao∧Aside0 (tribunalref02_addD.j1 kq l0 l1 ac ab aa ao=some r)∧Aside0 (kq≤k1)∧Aside0 (Kd.R (Kd.int .u16) 127 wc w.heap.size (fun _=>True) u5 ac)∧Aside0 (Below w.heap.size w wc))
   case first=>
    have H:=HC3.out
    clear HC3
    by_cases c4:aa<(l0.length:Int)
    ·rw[if_pos c4]at H
     have al:decide (aa<(l0.length:Int))=true:=decide_eq_true c4
     clear c4
     (first|rw[al]|rw[aw]|(simp only[i64_w,i32_w];rw[al])|skip)
     have H':=Aside0.mk H
     clear H
     go_wp2
     go_meet
     case rel=>exact⟨_,(true),X0,H',⟨Y4⟩,⟨kru ad.out⟩,⟨khu HB.out⟩⟩
    rw[if_neg c4]at H
    have al:decide (aa<(l0.length:Int))=false:=decide_eq_false c4
    clear c4
    (first|rw[al]|rw[aw]|(simp only[i64_w,i32_w];rw[al])|skip)
    by_cases c5:aa<(l1.length:Int)
    ·rw[if_pos c5]at H
     have ax:decide (aa<(l1.length:Int))=true:=decide_eq_true c5
     clear c5
     have H':=Aside0.mk H
     clear H
     go_wp2
     go_meet
     case rel=>exact⟨_,(true),X0,H',⟨Y4⟩,⟨kru ad.out⟩,⟨khu HB.out⟩⟩
    rw[if_neg c5]at H
    have ax:decide (aa<(l1.length:Int))=false:=decide_eq_false c5
    clear c5
    have H':=Aside0.mk H
    clear H
    go_wp2
    go_meet
    case rel=>exact⟨_,(decide (ab>0)),X0,H',⟨Y4⟩,⟨kru ad.out⟩,⟨khu HB.out⟩⟩
   case rest=>
    clear HC3
    try clear c1
    try clear p2
    try clear c4
    try clear al
    try clear aw
    try clear c5
    try clear ax
    try clear p2
    obtain⟨kq,ao,rfl,HA,HJ2,ad,HB⟩:=hcut
    cases kq with
    | zero=>exact absurd HA.out (by simp[tribunalref02_addD.j1])
    | succ kj2=>
     have H:=HA.out
     clear HA
     simp only[tribunalref02_addD.j1]at H
     by_cases c6:ao=true
     ·subst c6
      have H1:(if aa<(l0.length:Int) then(if 0≤aa then(if aa<(l1.length:Int) then(if ac.length<70368744177664 then(tribunalref02_addD.l0 kj2 l0 l1 (ac++[IntKind.u16.wrap (((ab+(rd l0 aa))+(rd l1 aa))%4294967296)]) ((((ab+(rd l0 aa))+(rd l1 aa))%4294967296)/65536) (wrap64 (aa+1))) else(none)) else(if ac.length<70368744177664 then(tribunalref02_addD.l0 kj2 l0 l1 (ac++[IntKind.u16.wrap ((ab+(rd l0 aa))%4294967296)]) (((ab+(rd l0 aa))%4294967296)/65536) (wrap64 (aa+1))) else(none))) else(none)) else(if aa<(l1.length:Int) then(if 0≤aa then(if ac.length<70368744177664 then(tribunalref02_addD.l0 kj2 l0 l1 (ac++[IntKind.u16.wrap ((ab+(rd l1 aa))%4294967296)]) (((ab+(rd l1 aa))%4294967296)/65536) (wrap64 (aa+1))) else(none)) else(none)) else(if ac.length<70368744177664 then(tribunalref02_addD.l0 kj2 l0 l1 (ac++[IntKind.u16.wrap (ab)]) (ab/65536) (wrap64 (aa+1))) else(none))))=some r:=by rw[if_pos rfl]at H;exact H
      clear H
      have H:=H1
      clear H1
      by_cases c7:aa<(l0.length:Int)
      ·rw [if_pos c7]at H
       have aW:decide (aa<(l0.length:Int))=true:=decide_eq_true c7
       clear c7
       by_cases c8:0≤aa
       ·rw[if_pos c8]at H
        have be:decide (0≤aa)=true:=decide_eq_true c8
        clear c8
        by_cases c9:aa<(l1.length:Int)
        ·rw[if_pos c9]at H
         have aX:decide (aa<(l1.length:Int))=true:=decide_eq_true c9
         clear c9
         by_cases c10:ac.length<70368744177664
         ·rw[if_pos c10]at H
          have aD:=Aside0.mk c10
          clear c10
          obtain⟨ay,ah⟩:∃y_:List Int,y_=(ac++[IntKind.u16.wrap (((ab+(rd l0 aa))+(rd l1 aa))%4294967296)]):=⟨_,rfl⟩
          replace H:(tribunalref02_addD.l0 kj2 l0 l1 ay ((((ab+(rd l0 aa))+(rd l1 aa))%4294967296)/65536) (wrap64 (aa+1)))=some r:=by first|(rw[ah];with_reducible exact H)|(have H2_:=(Option.bind_some _ _).symm.trans H;rw[ah];with_reducible exact H2_)|(have H2_:=(Option.bind_some _ _).symm.trans H;with_reducible exact H2_)|with_reducible exact H|(rw[ah];exact H)|exact H
          have aE:=Aside0.mk ah
          clear ah
          have H':=Aside0.mk H
          clear H
          have af:0≤(aa:Int):=of_decide_eq_true ‹_›
          have ag:aa<(l0.length:Int):=of_decide_eq_true ‹_›
          obtain⟨aG,ap,ae⟩:=Kd.at_int HR0.out aa af ag
          cases ap
          replace ae:=(HB.out.cell (World.block_lt_of_cell? w _ ae)).trans ae
          replace af:=eq_true af
          replace ag:=eq_true ag
          have aq:0≤(aa:Int):=of_decide_eq_true ‹_›
          have ar:aa<(l1.length:Int):=of_decide_eq_true ‹_›
          obtain⟨bb,aY,am⟩:=Kd.at_int HR1.out aa aq ar
          cases aY
          replace am:=(HB.out.cell (World.block_lt_of_cell? w _ am)).trans am
          replace aq:=eq_true aq
          replace ar:=eq_true ar
          go_wp2_with (first|((with_reducible refine gate_builtin (b:=.append) (xs:=#[.tmp 46,.tmp 49]) rfl ?_);(try(refine gate_guard F0 ?_;dsimp only));at_builtin;refine Kd.R_append (Kd.int .u16) (w0:=w) w.heap.size rfl (.tmp 46) (.tmp 49) 79 127 (.int .u16 0) 2 rfl Tryz.underlying79 info127 rfl V0 Y0 u5 ac (IntKind.u16.wrap (((ab+(rd l0 aa))+(rd l1 aa))%4294967296)) [.int .u16 (IntKind.u16.wrap (((ab+(rd l0 aa))+(rd l1 aa))%4294967296))] (fun _=>True) (fun _=>False) rfl rfl ?aP (fun _ hk=>hk.elim) ?aF ?aO ?aB ?aS ?aL ?_;(case aP=>exact rfl);(case aB=>exact(khu HB.out));(case aF=>exact(fun _ _=>trivial));(case aO=>exact(kru ad.out));(case aS=>exact(below_size (khu HB.out)));(case aL=>have:=aD.out;omega);intro bf w11 ho hb hg hat;rw[←aE.out]at ho;replace HB:=Aside0.mk (hb);have aH:=Aside0.mk (ho);clear ad;clear ho hb hg hat))
          go_roundg kj2
          case measure=>have:=HK1.out;have:=HJ2.out;omega
          case rel=>exact⟨(ay),((((ab+(rd l0 aa))+(rd l1 aa))%4294967296)/65536),(wrap64 (aa+1)),X0,X0,H',⟨X7⟩,⟨kru aH.out⟩,⟨khu HB.out⟩⟩
         rw[if_neg c10]at H
         exact absurd H B0
        rw[if_neg c9]at H
        have aX:decide (aa<(l1.length:Int))=false:=decide_eq_false c9
        clear c9
        by_cases c12:ac.length<70368744177664
        ·rw[if_pos c12]at H
         have aI:=Aside0.mk c12
         clear c12
         obtain⟨az,ai⟩:∃y_:List Int,y_=(ac++[IntKind.u16.wrap ((ab+(rd l0 aa))%4294967296)]):=⟨_,rfl⟩
         replace H:(tribunalref02_addD.l0 kj2 l0 l1 az (((ab+(rd l0 aa))%4294967296)/65536) (wrap64 (aa+1)))=some r:=by first|(rw[ai];with_reducible exact H)|(have H2_:=(Option.bind_some _ _).symm.trans H;rw[ai];with_reducible exact H2_)|(have H2_:=(Option.bind_some _ _).symm.trans H;with_reducible exact H2_)|with_reducible exact H|(rw[ai];exact H)|exact H
         have aJ:=Aside0.mk ai
         clear ai
         have H':=Aside0.mk H
         clear H
         have af:0≤(aa:Int):=of_decide_eq_true ‹_›
         have ag:aa<(l0.length:Int):=of_decide_eq_true ‹_›
         obtain⟨aG,ap,ae⟩:=Kd.at_int HR0.out aa af ag
         cases ap
         replace ae:=(HB.out.cell (World.block_lt_of_cell? w _ ae)).trans ae
         replace af:=eq_true af
         replace ag:=eq_true ag
         go_wp2_with (first|((with_reducible refine gate_builtin (b:=.append) (xs:=#[.tmp 46,.tmp 49]) rfl ?_);(try(refine gate_guard F0 ?_;dsimp only));at_builtin;refine Kd.R_append (Kd.int .u16) (w0:=w) w.heap.size rfl (.tmp 46) (.tmp 49) 79 127 (.int .u16 0) 2 rfl Tryz.underlying79 info127 rfl V0 Y0 u5 ac (IntKind.u16.wrap ((ab+(rd l0 aa))%4294967296)) [.int .u16 (IntKind.u16.wrap ((ab+(rd l0 aa))%4294967296))] (fun _=>True) (fun _=>False) rfl rfl ?aP (fun _ hk=>hk.elim) ?aF ?aO ?aB ?aS ?aL ?_;(case aP=>exact rfl);(case aB=>exact(khu HB.out));(case aF=>exact(fun _ _=>trivial));(case aO=>exact(kru ad.out));(case aS=>exact(below_size (khu HB.out)));(case aL=>have:=aI.out;omega);intro bg w13 ho hb hg hat;rw[←aJ.out]at ho;replace HB:=Aside0.mk (hb);have aK:=Aside0.mk (ho);clear ad;clear ho hb hg hat))
         go_roundg kj2
         case measure=>have:=HK1.out;have:=HJ2.out;omega
         case rel=>exact⟨(az),(((ab+(rd l0 aa))%4294967296)/65536),(wrap64 (aa+1)),X0,X0,H',⟨X7⟩,⟨kru aK.out⟩,⟨khu HB.out⟩⟩
        rw[if_neg c12]at H
        exact absurd H B0
       rw[if_neg c8]at H
       exact absurd H B0
      rw[if_neg c7]at H
      have aW:decide (aa<(l0.length:Int))=false:=decide_eq_false c7
      clear c7
      by_cases c14:aa<(l1.length:Int)
      ·rw[if_pos c14]at H
       have aM:decide (aa<(l1.length:Int))=true:=decide_eq_true c14
       clear c14
       by_cases c15:0≤aa
       ·rw[if_pos c15]at H
        have bc:decide (0≤aa)=true:=decide_eq_true c15
        clear c15
        by_cases c16:ac.length<70368744177664
        ·rw[if_pos c16]at H
         have aN:=Aside0.mk c16
         clear c16
         obtain⟨aA,aj⟩:∃y_:List Int,y_=(ac++[IntKind.u16.wrap ((ab+(rd l1 aa))%4294967296)]):=⟨_,rfl⟩
         replace H:(tribunalref02_addD.l0 kj2 l0 l1 aA (((ab+(rd l1 aa))%4294967296)/65536) (wrap64 (aa+1)))=some r:=by first|(rw[aj];with_reducible exact H)|(have H2_:=(Option.bind_some _ _).symm.trans H;rw[aj];with_reducible exact H2_)|(have H2_:=(Option.bind_some _ _).symm.trans H;with_reducible exact H2_)|with_reducible exact H|(rw[aj];exact H)|exact H
         have aQ:=Aside0.mk aj
         clear aj
         have H':=Aside0.mk H
         clear H
         have au:0≤(aa:Int):=of_decide_eq_true ‹_›
         have av:aa<(l1.length:Int):=of_decide_eq_true ‹_›
         obtain⟨bd,aZ,an⟩:=Kd.at_int HR1.out aa au av
         cases aZ
         replace an:=(HB.out.cell (World.block_lt_of_cell? w _ an)).trans an
         replace au:=eq_true au
         replace av:=eq_true av
         go_wp2_with (first|((with_reducible refine gate_builtin (b:=.append) (xs:=#[.tmp 46,.tmp 49]) rfl ?_);(try(refine gate_guard F0 ?_;dsimp only));at_builtin;refine Kd.R_append (Kd.int .u16) (w0:=w) w.heap.size rfl (.tmp 46) (.tmp 49) 79 127 (.int .u16 0) 2 rfl Tryz.underlying79 info127 rfl V0 Y0 u5 ac (IntKind.u16.wrap ((ab+(rd l1 aa))%4294967296)) [.int .u16 (IntKind.u16.wrap ((ab+(rd l1 aa))%4294967296))] (fun _=>True) (fun _=>False) rfl rfl ?aP (fun _ hk=>hk.elim) ?aF ?aO ?aB ?aS ?aL ?_;(case aP=>exact rfl);(case aB=>exact(khu HB.out));(case aF=>exact(fun _ _=>trivial));(case aO=>exact(kru ad.out));(case aS=>exact(below_size (khu HB.out)));(case aL=>have:=aN.out;omega);intro bh w17 ho hb hg hat;rw[←aQ.out]at ho;replace HB:=Aside0.mk (hb);have aR:=Aside0.mk (ho);clear ad;clear ho hb hg hat))
         go_roundg kj2
         case measure=>have:=HK1.out;have:=HJ2.out;omega
         case rel=>exact⟨(aA),(((ab+(rd l1 aa))%4294967296)/65536),(wrap64 (aa+1)),X0,X0,H',⟨X7⟩,⟨kru aR.out⟩,⟨khu HB.out⟩⟩
        rw[if_neg c16]at H
        exact absurd H B0
       rw[if_neg c15]at H
       exact absurd H B0
      rw[if_neg c14]at H
      have aM:decide (aa<(l1.length:Int))=false:=decide_eq_false c14
      clear c14
      by_cases c18:ac.length<70368744177664
      ·rw[if_pos c18]at H
       have aT:=Aside0.mk c18
       clear c18
       obtain⟨aC,ak⟩:∃y_:List Int,y_=(ac++[IntKind.u16.wrap (ab)]):=⟨_,rfl⟩
       replace H:(tribunalref02_addD.l0 kj2 l0 l1 aC (ab/65536) (wrap64 (aa+1)))=some r:=by first|(rw[ak];with_reducible exact H)|(have H2_:=(Option.bind_some _ _).symm.trans H;rw[ak];with_reducible exact H2_)|(have H2_:=(Option.bind_some _ _).symm.trans H;with_reducible exact H2_)|with_reducible exact H|(rw[ak];exact H)|exact H
       have aU:=Aside0.mk ak
       clear ak
       have H':=Aside0.mk H
       clear H
       go_wp2_with (first|((with_reducible refine gate_builtin (b:=.append) (xs:=#[.tmp 46,.tmp 49]) rfl ?_);(try(refine gate_guard F0 ?_;dsimp only));at_builtin;refine Kd.R_append (Kd.int .u16) (w0:=w) w.heap.size rfl (.tmp 46) (.tmp 49) 79 127 (.int .u16 0) 2 rfl Tryz.underlying79 info127 rfl V0 Y0 u5 ac (IntKind.u16.wrap (ab)) [.int .u16 (IntKind.u16.wrap (ab))] (fun _=>True) (fun _=>False) rfl rfl ?aP (fun _ hk=>hk.elim) ?aF ?aO ?aB ?aS ?aL ?_;(case aP=>exact rfl);(case aB=>exact(khu HB.out));(case aF=>exact(fun _ _=>trivial));(case aO=>exact(kru ad.out));(case aS=>exact(below_size (khu HB.out)));(case aL=>have:=aT.out;omega);intro bi w19 ho hb hg hat;rw[←aU.out]at ho;replace HB:=Aside0.mk (hb);have aV:=Aside0.mk (ho);clear ad;clear ho hb hg hat))
       go_roundg kj2
       case measure=>have:=HK1.out;have:=HJ2.out;omega
       case rel=>exact⟨(aC),(ab/65536),(wrap64 (aa+1)),X0,X0,H',⟨X7⟩,⟨kru aV.out⟩,⟨khu HB.out⟩⟩
      rw[if_neg c18]at H
      exact absurd H B0
     replace c6:=Bool.eq_false_iff.mpr c6
     subst c6
     have H1:(some ac)=some r:=by rw[if_neg (show ¬(false=true) by decide)]at H;exact H
     clear H
     have H:=H1
     clear H1
     obtain rfl:=Option.some.inj H
     go_wp2
     go_ret
     exact⟨_,J0,kru ad.out,khu HB.out⟩
end Go.Proofs.YtncomlmhagaajaaGreat.PBo
