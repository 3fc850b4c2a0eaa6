/- Part 4 of what the card rests on. -/
import Derived.Laws.EntriesVeiled
import Derived.Laws.Bits64b
import Derived.OpenShut
import Derived.Lib.ItoaNum
import Derived.Test.YtncomlmhagaajaaGreatCo3
set_option maxHeartbeats 8000000
set_option maxRecDepth 100000
set_option linter.unusedVariables false
set_option linter.unusedSimpArgs false
section
namespace Go.Proofs.YtncomlmhagaajaaGreat.PBo
open Go Go.RowKit Go.Proofs.YtncomlmhagaajaaGreatW.PrintWords Go.Proofs.YtncomlmhagaajaaGreatW.PrintLast Go.Proofs.YtncomlmhagaajaaGreatW.PrintMore Go.Proofs.YtncomlmhagaajaaGreat.Mine
theorem kgV {P:Program} {ops:Array Oper} {Q:Exit→Act→World→Prop} {oi:Oper} {N:Option Tmp} {a:Act} {w:World} {K:Act→World→Prop} {f:FuncId} {fn:Func} {t:Tmp} {cap:Array Value} {ar:Array Operand} {ts:Array TypeId} (hf:P.funcs[f]? = some fn) (args:Array Value)
  (hw:Region.wanted oi (yielded ops a.tmps)=true) (hN:oi.dst=N) (hop:oi.op=.call {callee:=.value (.tmp t),args:=ar,argTypes:=ts}) (hv:a.eval (.tmp t)=.func (.func f) #[] cap)
  (h:Calls P f (args++cap) w fun e w'=>∃v,e=.returned v∧K (a.put N v) w') (hargs:ar.map a.eval=args:=by(try simp only[List.map_toArray,List.map_cons,List.map_nil]);first|done|rfl) (hname:(fn.name == "runtime.NumGoroutine")=false:=by kernel_rfl) (hb:fn.body.isSome=true:=by kernel_rfl) :
  if Region.wanted oi (yielded ops a.tmps)=true then Oper.wp P oi a w K Q else K (a.put N undef) w:=by
 refine call_ f (args++cap) hw hN ?_ h
 have he:=enters_ hf hname hb (args++cap) w
 have hv2:Act.eval a (.tmp t)=.func (.func f) #[] cap:=hv
 unfold execOp
 simp only[hop,resolve]
 rw[hv2,hargs]
 simp[Deferred.ofValue,invoke,he]
theorem numbers_call (n:Nat) (w:World):Calls Tryz.prog 57 #[.func (.func n) #[] #[]] w fun e w'=>∃g,g=w.heap.size∧e=.returned (.func (.func 127) #[] #[.pointer (some ⟨g,0,none⟩)])∧w'.heap[g]? = some (.cells #[.func (.func n) #[] #[]] 100 (0,0))∧Below w.heap.size w w':=by
 go_enter Tryz.func57,Tryz.ntmps57
 go_wp2_with (first|((with_reducible refine gate_dst (N:=1) rfl ?_);refine kbe 1 #[.func (.func n) #[] #[]] 100 ?_;intro g1 hg W2 hx hb))
 go_ret
 subst hg
 exact⟨_,rfl,rfl,hx,hb⟩
theorem params_0 (op:Int) (v:Value) (w:World):Calls Tryz.prog 32 #[.int .i64 op,.int .i64 0,v] w fun e w'=>e=.returned (.bool true)∧w'=w:=by
 go_enter Tryz.func32,Tryz.ntmps32
 go_wp2
 go_ret
 exact⟨rfl,rfl⟩
theorem operators_1 (p v:Value) (w:World):Calls Tryz.prog 59 #[p,v] w fun e w'=>e=.returned (.int .i64 1)∧w'=w:=by
 go_enter Tryz.func59,Tryz.ntmps59
 go_wp2
 go_ret
 exact⟨rfl,rfl⟩
def bits_apply2 (k:Nat) (go:Int→List Int→Int→List Int→Option (Bool×List Int)) (wd:Int→Int) (a0:Int):List S28→Option (Int×List Int×Int)
 | [x,y]=>(bits_vectors.f k a0 [x,y]).bind fun e=>if e=0 then(if wd x.f0>4096 then none else(go x.f0 x.f1 y.f0 y.f1).bind fun n=>((bits_of.f k (wd x.f0) n.1 n.2).bind fun r=>(some (r.1,r.2,0)))) else(some (0,[],e))
 | _=>none
theorem addBox {w W W':World} {bs:List Bx} {vs os:List KV} {g:Nat} {cs:Array Value} {t:TypeId} (K:Kp w bs vs os W) (hg:W.heap.size≤g) (hx:W'.heap[g]? = some (.cells cs t (0,0))) (hb:Below W.heap.size W W'):Kp w (bs++[(g,cs,t)]) vs os W':=by
 have K':=K.up hb
 refine⟨K'.below,fun b h=>?_,?_,fun v h=>?_,fun v h=>?_,K.sep⟩
 ·rcases List.mem_append.1 h with h|h
  ·exact K'.blk b h
  obtain rfl:=List.mem_singleton.1 h
  exact⟨Nat.le_trans (below_size K.below) hg,hx⟩
 ·rw[List.map_append,List.nodup_append]
  refine⟨K.nod,F1,fun a ha b hb'=>?_⟩
  obtain rfl:b=g:=by simpa using hb'
  obtain⟨c,hc,rfl⟩:=List.mem_map.1 ha
  have:=blk_lt (K.blk c hc).2
  omega
 ·refine Kd.V_mono (Kd.V_below (Kd.V_elderB (K.val v h) g hg) hb) fun k hk=>⟨hk.1.1,fun b hbm=>?_⟩
  rcases List.mem_append.1 hbm with hm|hm
  ·exact hk.1.2 b hm
  obtain rfl:=List.mem_singleton.1 hm
  exact hk.2
 refine Kd.R_mono (Kd.R_below (Kd.R_elderB (K.own v h) g hg) hb) fun k hk b hbm=>?_
 rcases List.mem_append.1 hbm with hm|hm
 ·exact hk.1 b hm
 obtain rfl:=List.mem_singleton.1 hm
 exact hk.2
theorem vec_two {w:World} {A:Option Addr} {x y:S28} (h:Kd.C k28 w A 2 [x,y]):∃(bk o:Nat) (B1:Option Addr) (d1:Nat) (B2:Option Addr) (d2:Nat),A=some ⟨bk,o,none⟩ ∧
  (w.cell? ⟨bk,o,none⟩=some (.int .i64 x.f0)∧w.cell? ⟨bk,o+1,none⟩=some (.slice B1 x.f1.length d1)∧w.cell? ⟨bk,o+2,none⟩=some (.int .i64 y.f0)∧w.cell? ⟨bk,o+3,none⟩=some (.slice B2 y.f1.length d2)) ∧
  (x.f1.length≤d1∧Kd.C (Kd.int .u64) w B1 x.f1.length x.f1)∧(y.f1.length≤d2∧Kd.C (Kd.int .u64) w B2 y.f1.length y.f1):=by
 obtain⟨bk,o,F,rfl,hlt,hF,hc⟩:=vec_place (l:=[x,y]) h F1
 have z0:0 < [x,y].length:=Nat.le_of_ble_eq_true rfl
 have z1:1 < [x,y].length:=Nat.le_of_ble_eq_true rfl
 refine⟨bk,o,(F ⟨0,z0⟩).1,(F ⟨0,z0⟩).2,(F ⟨1,z1⟩).1,(F ⟨1,z1⟩).2,rfl,⟨?_,?_,?_,?_⟩,hF ⟨0,z0⟩,hF ⟨1,z1⟩⟩
 ·have:=hc ⟨0,z0⟩ 0 _ rfl
  simpa using this
 ·have:=hc ⟨0,z0⟩ 1 _ rfl
  simpa using this
 ·have:=hc ⟨1,z1⟩ 0 _ rfl
  simpa using this
 have:=hc ⟨1,z1⟩ 1 _ rfl
 simpa [Nat.add_assoc] using this
theorem neq_nil (W:World):(binOp .neq 62 .nilFunc .nilFunc).run Tryz.prog W=.ok (.bool false) W:=by kernel_rfl
theorem neq_fun (n:Nat) (W:World):(binOp .neq 62 (.func (.func n) #[] #[]) .nilFunc).run Tryz.prog W=.ok (.bool true) W:=by kernel_rfl
def bits_numbers1_bits_ring_2.f (k:Nat) (x0:Int) (x1:List Int) (y0:Int) (y1:List Int):Option (Bool×List Int):=(bits_u.f k x0 x1).bind fun b1=>((bits_u.f k y0 y1).bind fun b2=>((bits_ring_2.f k b1.1 b1.2 b2.1 b2.2).bind fun b3=>(some (b3.1,b3.2))))
theorem bits_numbers1_bits_ring_2.calls (k:Nat) (P:Value) (bk o c g:Nat) (x0:Int) (A1:Option Addr) (c1:Nat) (x1:List Int) (y0:Int) (A2:Option Addr) (c2:Nat) (y1:List Int) (r1:Bool) (r2:List Int) (w:World) (hg:w.cell? ⟨g,0,none⟩=some (.func (.func 130) #[] #[])) (e0:w.cell? ⟨bk,o,none⟩=some (.int .i64 x0)) (e1:w.cell? ⟨bk,o+1,none⟩=some (.slice A1 x1.length c1)) (e2:w.cell? ⟨bk,o+2,none⟩=some (.int .i64 y0)) (e3:w.cell? ⟨bk,o+3,none⟩=some (.slice A2 y1.length c2))
  (hrx:Kd.C (Kd.int .u64) w A1 x1.length x1) (hcx:x1.length≤c1) (hry:Kd.C (Kd.int .u64) w A2 y1.length y1) (hcy:y1.length≤c2) (h:bits_numbers1_bits_ring_2.f k x0 x1 y0 y1=some (r1,r2)) :
  Calls Tryz.prog 127 #[P,.slice (some ⟨bk,o,none⟩) 2 c,.pointer (some ⟨g,0,none⟩)] w fun e w'=>∃v1_:Value,e=.returned (.agg #[.bool r1,v1_])∧Kd.V (Kd.int .u64) 48 w' w.heap.size (fun k_=>w.heap.size≤k_) v1_ r2∧Below w.heap.size w w':=by
 have aa:=Tryz.underlying28
 have ab:=Tryz.underlying43
 have hw1:wrap64 (1:Int)=1:=by unfold wrap64;omega
 have K:=Kp.refl w
 replace K:=K.parV (Kd.V_mono (ok':=fun _=>True) (Kd.V_mk (e:=48) (base:=0) hcx (Kd.C_F (Kd.heap_int .u64) hrx)) (fun _ h=>trivial))
 clear hrx hcx
 replace K:=K.parV (Kd.V_mono (ok':=fun _=>True) (Kd.V_mk (e:=48) (base:=0) hcy (Kd.C_F (Kd.heap_int .u64) hry)) (fun _ h=>trivial))
 clear hry hcy
 try simp only[klv]at K
 rw[bits_numbers1_bits_ring_2.f]at h
 go_enter Tryz.func127,Tryz.ntmps127
 go_wp2_with (first|((with_reducible refine gate_dst (N:=5) rfl ?_);refine kbe 5 #[.bool false,.slice none 0 0] 43 ?_;intro g1 hgg W2 hx hb;replace K:=K.u.box hgg hx hb;clear hgg hx hb))
 replace h:=bindA h
 obtain⟨⟨z3,u3⟩,A10,h⟩:=h
 dsimp only at h
 replace h:=bindA h
 obtain⟨⟨z4,u4⟩,A11,h⟩:=h
 dsimp only at h
 replace h:=bindA h
 obtain⟨⟨z5,u5⟩,A12,h⟩:=h
 dsimp only at h
 obtain⟨Bs,Vs,Os,hBs,hVs,hOs,K⟩:=K.abs
 have HS:Aside0 (∀l m o_ W,Kp w (Bs++l) m o_ W→W.cell? ⟨g,0,none⟩=some (.func (.func 130) #[] #[])∧W.cell? ⟨bk,o,none⟩=some (.int .i64 x0)∧W.cell? ⟨bk,o+1,none⟩=some (.slice A1 x1.length c1)∧W.cell? ⟨bk,o+2,none⟩=some (.int .i64 y0)∧W.cell? ⟨bk,o+3,none⟩=some (.slice A2 y1.length c2)):=⟨fun l m o_ W K=>⟨below_cell K.below hg,below_cell K.below e0,below_cell K.below e1,below_cell K.below e2,below_cell K.below e3⟩⟩
 refine kpstart (n:=14) (ds:=[]) (S:=fun W=>W.cell? ⟨g,0,none⟩=some (.func (.func 130) #[] #[])∧W.cell? ⟨bk,o,none⟩=some (.int .i64 x0)∧W.cell? ⟨bk,o+1,none⟩=some (.slice A1 x1.length c1)∧W.cell? ⟨bk,o+2,none⟩=some (.int .i64 y0)∧W.cell? ⟨bk,o+3,none⟩=some (.slice A2 y1.length c2)) #[false,false,false,false,false,false,false,false,false,false,false,false,false,false] Z0 rfl rfl K (HS.out [] _ _) (fun W15 K hH=>?_)
 refine take_ (i:=0) (N:=some 6) (v:=?_) (a':=?_) #[true,false,false,false,false,false,false,false,false,false,false,false,false,false] rfl rfl Z0 (fun _ _ _ h=>h) (Or.inl ⟨B0,?_⟩) hH ?_ ?_
 rotate_left
 ·rintro w' ⟨s0,s1,s2,s3,s4⟩
  go_simp
  with_reducible rfl
 rotate_left
 ·simp only[Act.put,kss,i64_w,i32_w]
  rfl
 refine pure_ (i:=1) (N:=some 7) (v:=?_) (a':=?_) #[true,true,false,false,false,false,false,false,false,false,false,false,false,false] rfl rfl Z0 (fun _ _ _ h=>h) (Or.inl ⟨B0,?_⟩) ?_ ?_
 rotate_left
 ·intro w'
  go_simp
  with_reducible rfl
 rotate_left
 ·simp only[Act.put,kss,i64_w,i32_w]
  rfl
 refine pure_ (i:=2) (N:=some 8) (v:=?_) (a':=?_) #[true,true,true,false,false,false,false,false,false,false,false,false,false,false] rfl rfl Z0 (fun _ _ _ h=>h) (Or.inl ⟨B0,?_⟩) ?_ ?_
 rotate_left
 ·intro w'
  go_simp
  with_reducible rfl
 rotate_left
 ·simp only[Act.put,kss,i64_w,i32_w]
  rfl
 refine take_ (i:=3) (N:=some 9) (v:=?_) (a':=?_) #[true,true,true,true,false,false,false,false,false,false,false,false,false,false] rfl rfl Z0 (fun _ _ _ h=>h) (Or.inl ⟨B0,?_⟩) hH ?_ ?_
 rotate_left
 ·rintro w' ⟨s0,s1,s2,s3,s4⟩
  go_simp
  with_reducible rfl
 rotate_left
 ·simp only[Act.put,kss,i64_w,i32_w]
  rfl
 refine pure_ (i:=5) (N:=some 11) (v:=?_) (a':=?_) #[true,true,true,true,false,true,false,false,false,false,false,false,false,false] rfl rfl Z0 (fun _ _ _ h=>h) (Or.inl ⟨B0,?_⟩) ?_ ?_
 rotate_left
 ·intro w'
  go_simp
  with_reducible rfl
 rotate_left
 ·simp only[Act.put,kss,i64_w,i32_w]
  rfl
 refine pure_ (i:=6) (N:=some 12) (v:=?_) (a':=?_) #[true,true,true,true,false,true,true,false,false,false,false,false,false,false] rfl rfl Z0 (fun _ _ _ h=>h) (Or.inl ⟨B0,?_⟩) ?_ ?_
 rotate_left
 ·intro w'
  go_simp
  with_reducible rfl
 rotate_left
 ·simp only[Act.put,kss,i64_w,i32_w]
  rfl
 refine pure_ (i:=7) (N:=some 13) (v:=?_) (a':=?_) #[true,true,true,true,false,true,true,true,false,false,false,false,false,false] rfl rfl Z0 (fun _ _ _ h=>h) (Or.inl ⟨B0,?_⟩) ?_ ?_
 rotate_left
 ·intro w'
  go_simp
  with_reducible rfl
 rotate_left
 ·simp only[Act.put,kss,i64_w,i32_w]
  rfl
 refine pure_ (i:=8) (N:=some 14) (v:=?_) (a':=?_) #[true,true,true,true,false,true,true,true,true,false,false,false,false,false] rfl rfl Z0 (fun _ _ _ h=>h) (Or.inl ⟨B0,?_⟩) ?_ ?_
 rotate_left
 ·intro w'
  go_simp
  with_reducible rfl
 rotate_left
 ·simp only[Act.put,kss,i64_w,i32_w]
  rfl
 refine pure_ (i:=9) (N:=some 15) (v:=?_) (a':=?_) #[true,true,true,true,false,true,true,true,true,true,false,false,false,false] rfl rfl Z0 (fun _ _ _ h=>h) (Or.inl ⟨B0,?_⟩) ?_ ?_
 rotate_left
 ·intro w'
  go_simp
  with_reducible rfl
 rotate_left
 ·simp only[Act.put,kss,i64_w,i32_w]
  rfl
 refine take_ (i:=10) (N:=some 16) (v:=?_) (a':=?_) #[true,true,true,true,false,true,true,true,true,true,true,false,false,false] rfl rfl Z0 (fun _ _ _ h=>h) (Or.inl ⟨B0,?_⟩) hH ?_ ?_
 rotate_left
 ·rintro w' ⟨s0,s1,s2,s3,s4⟩
  go_simp
  with_reducible rfl
 rotate_left
 ·simp only[Act.put,kss,i64_w,i32_w]
  rfl
 refine one_ (i:=4) (N:=some 10) #[true,true,true,true,true,true,true,true,true,true,true,false,false,false] rfl rfl Z0 X0 (fun Kc hK=>?_)
 refine kgo Tryz.func43 #[.agg #[.int .i64 x0,.slice A1 x1.length c1]] B0 rfl rfl ?_
 refine(bits_u.calls _ x0 _ _ x1 z3 u3 _ (K.C 0 Y3) (K.le 0 Y3) A10.out).mono ?_
 rintro e W' ⟨v1,rfl,ho,hb⟩
 replace K:=K.addRI 0 0 hb ho (Nat.le_of_ble_eq_true rfl)
 clear hb ho
 refine⟨_,rfl,hK.out _ _ (HS.out _ _ _ _ K) fun hH=>?_⟩
 clear hK Kc
 refine norm_ (a':=?_) ?_ ?_
 rotate_left
 ·show Act.put _ (some 10) _=_
  simp only[Act.put,kss,i64_w,i32_w]
  rfl
 refine one_ (i:=11) (N:=some 17) #[true,true,true,true,true,true,true,true,true,true,true,true,false,false] rfl rfl Z0 X0 (fun Kc hK=>?_)
 refine kgo Tryz.func43 #[.agg #[.int .i64 y0,.slice A2 y1.length c2]] B0 rfl rfl ?_
 refine(bits_u.calls _ y0 _ _ y1 z4 u4 _ (K.C 1 Y3) (K.le 1 Y3) A11.out).mono ?_
 rintro e W' ⟨v2,rfl,ho,hb⟩
 replace K:=K.addRI 1 1 hb ho (Nat.le_of_ble_eq_true rfl)
 clear hb ho
 refine⟨_,rfl,hK.out _ _ (HS.out _ _ _ _ K) fun hH=>?_⟩
 clear hK Kc
 refine norm_ (a':=?_) ?_ ?_
 rotate_left
 ·show Act.put _ (some 17) _=_
  simp only[Act.put,kss,i64_w,i32_w]
  rfl
 refine one_ (i:=12) (N:=some 18) #[true,true,true,true,true,true,true,true,true,true,true,true,true,false] rfl rfl Z0 X0 (fun Kc hK=>?_)
 obtain⟨P1,d1,q1⟩:=K.slice 2 Y3
 subst q1
 obtain⟨P2,d2,q2⟩:=K.slice 3 Y3
 subst q2
 refine kgV (t:=6) (cap:=#[]) Tryz.func130 #[.agg #[.bool z3,.slice P1 u3.length d1],.agg #[.bool z4,.slice P2 u4.length d2]] B0 rfl rfl B0 ?_
 refine(bits_ring_2.calls _ z3 _ _ u3 z4 _ _ u4 z5 u5 _ (K.C 2 Y3) (K.le 2 Y3) (K.C 3 Y3) (K.le 3 Y3) A12.out).mono ?_
 rintro e W' ⟨v3,rfl,ho,hb⟩
 replace K:=K.addFI 2 (fun _=>False) hb ho
 clear hb ho
 refine⟨_,rfl,hK.out _ _ (HS.out _ _ _ _ K) fun hH=>?_⟩
 clear hK Kc
 refine norm_ (a':=?_) ?_ ?_
 rotate_left
 ·show Act.put _ (some 18) _=_
  simp only[Act.put,kss,i64_w,i32_w]
  rfl
 obtain⟨P3,d3,q3⟩:=K.slice 4 Y3
 subst q3
 rw[hBs.out,hVs.out,hOs.out]at K
 simp only[kls,klv]at K
 clear hBs hVs hOs HS hH
 refine kone2 (i:=13) #[true,true,true,true,true,true,true,true,true,true,true,true,true,true] 0 (.bool z5) (.slice P3 u5.length d3) K rfl rfl rfl Z0 X0 B0 ?_ (fun W K=>⟨below_cell K.below hg,below_cell K.below e0,below_cell K.below e1,below_cell K.below e2,below_cell K.below e3⟩) ?_
 ·intro c0 c1_ f0 f1
  first|(go_simp;done)|(go_simp;rfl)
 clear K
 intro W9 K
 simp only[kls,klv]at K
 refine done_ Z0 ?_
 simp only[Option.some.injEq,Prod.mk.injEq]at h
 obtain⟨rfl,rfl⟩:=h
 go_wp2
 refine bodyPost_ret (results_single rfl (.cell g1 43 #[.bool z5,.slice P3 u5.length d3] (0,0) _ rfl (K.u.heap 0 rfl) Tryz.underlying43 rfl Z0 .nil)) rfl ?_
 exact⟨_,rfl,K.u.hand 4 rfl (fun _ h=>h.elim (fun h=>h.elim) id),K.u.below⟩
def bits_numbers1_bits_ring_5.f (k:Nat) (x0:Int) (x1:List Int) (y0:Int) (y1:List Int):Option (Bool×List Int):=(bits_u.f k x0 x1).bind fun b1=>((bits_u.f k y0 y1).bind fun b2=>((bits_ring_5.f k b1.1 b1.2 b2.1 b2.2).bind fun b3=>(some (b3.1,b3.2))))
theorem bits_numbers1_bits_ring_5.calls (k:Nat) (P:Value) (bk o c g:Nat) (x0:Int) (A1:Option Addr) (c1:Nat) (x1:List Int) (y0:Int) (A2:Option Addr) (c2:Nat) (y1:List Int) (r1:Bool) (r2:List Int) (w:World) (hg:w.cell? ⟨g,0,none⟩=some (.func (.func 133) #[] #[])) (e0:w.cell? ⟨bk,o,none⟩=some (.int .i64 x0)) (e1:w.cell? ⟨bk,o+1,none⟩=some (.slice A1 x1.length c1)) (e2:w.cell? ⟨bk,o+2,none⟩=some (.int .i64 y0)) (e3:w.cell? ⟨bk,o+3,none⟩=some (.slice A2 y1.length c2))
  (hrx:Kd.C (Kd.int .u64) w A1 x1.length x1) (hcx:x1.length≤c1) (hry:Kd.C (Kd.int .u64) w A2 y1.length y1) (hcy:y1.length≤c2) (h:bits_numbers1_bits_ring_5.f k x0 x1 y0 y1=some (r1,r2)) :
  Calls Tryz.prog 127 #[P,.slice (some ⟨bk,o,none⟩) 2 c,.pointer (some ⟨g,0,none⟩)] w fun e w'=>∃v1_:Value,e=.returned (.agg #[.bool r1,v1_])∧Kd.V (Kd.int .u64) 48 w' w.heap.size (fun k_=>w.heap.size≤k_) v1_ r2∧Below w.heap.size w w':=by
 have aa:=Tryz.underlying28
 have ab:=Tryz.underlying43
 have hw1:wrap64 (1:Int)=1:=by unfold wrap64;omega
 have K:=Kp.refl w
 replace K:=K.parV (Kd.V_mono (ok':=fun _=>True) (Kd.V_mk (e:=48) (base:=0) hcx (Kd.C_F (Kd.heap_int .u64) hrx)) (fun _ h=>trivial))
 clear hrx hcx
 replace K:=K.parV (Kd.V_mono (ok':=fun _=>True) (Kd.V_mk (e:=48) (base:=0) hcy (Kd.C_F (Kd.heap_int .u64) hry)) (fun _ h=>trivial))
 clear hry hcy
 try simp only[klv]at K
 rw[bits_numbers1_bits_ring_5.f]at h
 go_enter Tryz.func127,Tryz.ntmps127
 go_wp2_with (first|((with_reducible refine gate_dst (N:=5) rfl ?_);refine kbe 5 #[.bool false,.slice none 0 0] 43 ?_;intro g1 hgg W2 hx hb;replace K:=K.u.box hgg hx hb;clear hgg hx hb))
 replace h:=bindA h
 obtain⟨⟨z3,u3⟩,A10,h⟩:=h
 dsimp only at h
 replace h:=bindA h
 obtain⟨⟨z4,u4⟩,A11,h⟩:=h
 dsimp only at h
 replace h:=bindA h
 obtain⟨⟨z5,u5⟩,A12,h⟩:=h
 dsimp only at h
 obtain⟨Bs,Vs,Os,hBs,hVs,hOs,K⟩:=K.abs
 have HS:Aside0 (∀l m o_ W,Kp w (Bs++l) m o_ W→W.cell? ⟨g,0,none⟩=some (.func (.func 133) #[] #[])∧W.cell? ⟨bk,o,none⟩=some (.int .i64 x0)∧W.cell? ⟨bk,o+1,none⟩=some (.slice A1 x1.length c1)∧W.cell? ⟨bk,o+2,none⟩=some (.int .i64 y0)∧W.cell? ⟨bk,o+3,none⟩=some (.slice A2 y1.length c2)):=⟨fun l m o_ W K=>⟨below_cell K.below hg,below_cell K.below e0,below_cell K.below e1,below_cell K.below e2,below_cell K.below e3⟩⟩
 refine kpstart (n:=14) (ds:=[]) (S:=fun W=>W.cell? ⟨g,0,none⟩=some (.func (.func 133) #[] #[])∧W.cell? ⟨bk,o,none⟩=some (.int .i64 x0)∧W.cell? ⟨bk,o+1,none⟩=some (.slice A1 x1.length c1)∧W.cell? ⟨bk,o+2,none⟩=some (.int .i64 y0)∧W.cell? ⟨bk,o+3,none⟩=some (.slice A2 y1.length c2)) #[false,false,false,false,false,false,false,false,false,false,false,false,false,false] Z0 rfl rfl K (HS.out [] _ _) (fun W15 K hH=>?_)
 refine take_ (i:=0) (N:=some 6) (v:=?_) (a':=?_) #[true,false,false,false,false,false,false,false,false,false,false,false,false,false] rfl rfl Z0 (fun _ _ _ h=>h) (Or.inl ⟨B0,?_⟩) hH ?_ ?_
 rotate_left
 ·rintro w' ⟨s0,s1,s2,s3,s4⟩
  go_simp
  with_reducible rfl
 rotate_left
 ·simp only[Act.put,kss,i64_w,i32_w]
  rfl
 refine pure_ (i:=1) (N:=some 7) (v:=?_) (a':=?_) #[true,true,false,false,false,false,false,false,false,false,false,false,false,false] rfl rfl Z0 (fun _ _ _ h=>h) (Or.inl ⟨B0,?_⟩) ?_ ?_
 rotate_left
 ·intro w'
  go_simp
  with_reducible rfl
 rotate_left
 ·simp only[Act.put,kss,i64_w,i32_w]
  rfl
 refine pure_ (i:=2) (N:=some 8) (v:=?_) (a':=?_) #[true,true,true,false,false,false,false,false,false,false,false,false,false,false] rfl rfl Z0 (fun _ _ _ h=>h) (Or.inl ⟨B0,?_⟩) ?_ ?_
 rotate_left
 ·intro w'
  go_simp
  with_reducible rfl
 rotate_left
 ·simp only[Act.put,kss,i64_w,i32_w]
  rfl
 refine take_ (i:=3) (N:=some 9) (v:=?_) (a':=?_) #[true,true,true,true,false,false,false,false,false,false,false,false,false,false] rfl rfl Z0 (fun _ _ _ h=>h) (Or.inl ⟨B0,?_⟩) hH ?_ ?_
 rotate_left
 ·rintro w' ⟨s0,s1,s2,s3,s4⟩
  go_simp
  with_reducible rfl
 rotate_left
 ·simp only[Act.put,kss,i64_w,i32_w]
  rfl
 refine pure_ (i:=5) (N:=some 11) (v:=?_) (a':=?_) #[true,true,true,true,false,true,false,false,false,false,false,false,false,false] rfl rfl Z0 (fun _ _ _ h=>h) (Or.inl ⟨B0,?_⟩) ?_ ?_
 rotate_left
 ·intro w'
  go_simp
  with_reducible rfl
 rotate_left
 ·simp only[Act.put,kss,i64_w,i32_w]
  rfl
 refine pure_ (i:=6) (N:=some 12) (v:=?_) (a':=?_) #[true,true,true,true,false,true,true,false,false,false,false,false,false,false] rfl rfl Z0 (fun _ _ _ h=>h) (Or.inl ⟨B0,?_⟩) ?_ ?_
 rotate_left
 ·intro w'
  go_simp
  with_reducible rfl
 rotate_left
 ·simp only[Act.put,kss,i64_w,i32_w]
  rfl
 refine pure_ (i:=7) (N:=some 13) (v:=?_) (a':=?_) #[true,true,true,true,false,true,true,true,false,false,false,false,false,false] rfl rfl Z0 (fun _ _ _ h=>h) (Or.inl ⟨B0,?_⟩) ?_ ?_
 rotate_left
 ·intro w'
  go_simp
  with_reducible rfl
 rotate_left
 ·simp only[Act.put,kss,i64_w,i32_w]
  rfl
 refine pure_ (i:=8) (N:=some 14) (v:=?_) (a':=?_) #[true,true,true,true,false,true,true,true,true,false,false,false,false,false] rfl rfl Z0 (fun _ _ _ h=>h) (Or.inl ⟨B0,?_⟩) ?_ ?_
 rotate_left
 ·intro w'
  go_simp
  with_reducible rfl
 rotate_left
 ·simp only[Act.put,kss,i64_w,i32_w]
  rfl
 refine pure_ (i:=9) (N:=some 15) (v:=?_) (a':=?_) #[true,true,true,true,false,true,true,true,true,true,false,false,false,false] rfl rfl Z0 (fun _ _ _ h=>h) (Or.inl ⟨B0,?_⟩) ?_ ?_
 rotate_left
 ·intro w'
  go_simp
  with_reducible rfl
 rotate_left
 ·simp only[Act.put,kss,i64_w,i32_w]
  rfl
 refine take_ (i:=10) (N:=some 16) (v:=?_) (a':=?_) #[true,true,true,true,false,true,true,true,true,true,true,false,false,false] rfl rfl Z0 (fun _ _ _ h=>h) (Or.inl ⟨B0,?_⟩) hH ?_ ?_
 rotate_left
 ·rintro w' ⟨s0,s1,s2,s3,s4⟩
  go_simp
  with_reducible rfl
 rotate_left
 ·simp only[Act.put,kss,i64_w,i32_w]
  rfl
 refine one_ (i:=4) (N:=some 10) #[true,true,true,true,true,true,true,true,true,true,true,false,false,false] rfl rfl Z0 X0 (fun Kc hK=>?_)
 refine kgo Tryz.func43 #[.agg #[.int .i64 x0,.slice A1 x1.length c1]] B0 rfl rfl ?_
 refine(bits_u.calls _ x0 _ _ x1 z3 u3 _ (K.C 0 Y3) (K.le 0 Y3) A10.out).mono ?_
 rintro e W' ⟨v1,rfl,ho,hb⟩
 replace K:=K.addRI 0 0 hb ho (Nat.le_of_ble_eq_true rfl)
 clear hb ho
 refine⟨_,rfl,hK.out _ _ (HS.out _ _ _ _ K) fun hH=>?_⟩
 clear hK Kc
 refine norm_ (a':=?_) ?_ ?_
 rotate_left
 ·show Act.put _ (some 10) _=_
  simp only[Act.put,kss,i64_w,i32_w]
  rfl
 refine one_ (i:=11) (N:=some 17) #[true,true,true,true,true,true,true,true,true,true,true,true,false,false] rfl rfl Z0 X0 (fun Kc hK=>?_)
 refine kgo Tryz.func43 #[.agg #[.int .i64 y0,.slice A2 y1.length c2]] B0 rfl rfl ?_
 refine(bits_u.calls _ y0 _ _ y1 z4 u4 _ (K.C 1 Y3) (K.le 1 Y3) A11.out).mono ?_
 rintro e W' ⟨v2,rfl,ho,hb⟩
 replace K:=K.addRI 1 1 hb ho (Nat.le_of_ble_eq_true rfl)
 clear hb ho
 refine⟨_,rfl,hK.out _ _ (HS.out _ _ _ _ K) fun hH=>?_⟩
 clear hK Kc
 refine norm_ (a':=?_) ?_ ?_
 rotate_left
 ·show Act.put _ (some 17) _=_
  simp only[Act.put,kss,i64_w,i32_w]
  rfl
 refine one_ (i:=12) (N:=some 18) #[true,true,true,true,true,true,true,true,true,true,true,true,true,false] rfl rfl Z0 X0 (fun Kc hK=>?_)
 obtain⟨P1,d1,q1⟩:=K.slice 2 Y3
 subst q1
 obtain⟨P2,d2,q2⟩:=K.slice 3 Y3
 subst q2
 refine kgV (t:=6) (cap:=#[]) Tryz.func133 #[.agg #[.bool z3,.slice P1 u3.length d1],.agg #[.bool z4,.slice P2 u4.length d2]] B0 rfl rfl B0 ?_
 refine(bits_ring_5.calls _ z3 _ _ u3 z4 _ _ u4 z5 u5 _ (K.C 2 Y3) (K.le 2 Y3) (K.C 3 Y3) (K.le 3 Y3) A12.out).mono ?_
 rintro e W' ⟨v3,rfl,ho,hb⟩
 replace K:=K.addRI 2 2 hb ho (Nat.le_of_ble_eq_true rfl)
 clear hb ho
 refine⟨_,rfl,hK.out _ _ (HS.out _ _ _ _ K) fun hH=>?_⟩
 clear hK Kc
 refine norm_ (a':=?_) ?_ ?_
 rotate_left
 ·show Act.put _ (some 18) _=_
  simp only[Act.put,kss,i64_w,i32_w]
  rfl
 obtain⟨P3,d3,q3⟩:=K.slice 4 Y3
 subst q3
 rw[hBs.out,hVs.out,hOs.out]at K
 simp only[kls,klv]at K
 clear hBs hVs hOs HS hH
 refine kone2 (i:=13) #[true,true,true,true,true,true,true,true,true,true,true,true,true,true] 0 (.bool z5) (.slice P3 u5.length d3) K rfl rfl rfl Z0 X0 B0 ?_ (fun W K=>⟨below_cell K.below hg,below_cell K.below e0,below_cell K.below e1,below_cell K.below e2,below_cell K.below e3⟩) ?_
 ·intro c0 c1_ f0 f1
  first|(go_simp;done)|(go_simp;rfl)
 clear K
 intro W9 K
 simp only[kls,klv]at K
 refine done_ Z0 ?_
 simp only[Option.some.injEq,Prod.mk.injEq]at h
 obtain⟨rfl,rfl⟩:=h
 go_wp2
 refine bodyPost_ret (results_single rfl (.cell g1 43 #[.bool z5,.slice P3 u5.length d3] (0,0) _ rfl (K.u.heap 0 rfl) Tryz.underlying43 rfl Z0 .nil)) rfl ?_
 exact⟨_,rfl,K.u.hand 4 rfl (fun _ h=>h.elim (fun h=>h.elim) id),K.u.below⟩
theorem bits_numbers1_bits_ring_2.mono (a b c d:_) (k:Nat):LeO (bits_numbers1_bits_ring_2.f k a b c d) (bits_numbers1_bits_ring_2.f (k+1) a b c d):=by
 unfold bits_numbers1_bits_ring_2.f
 repeat' first
   | (with_reducible exact bits_u.mono _ _ _)
   | (with_reducible exact bits_ring_2.mono _ _ _ _ _)
   | (with_reducible exact LeO.refl _)
   | (with_reducible refine LeO.bind ?_ (fun _=>?_))
theorem bits_numbers1_bits_ring_5.mono (a b c d:_) (k:Nat):LeO (bits_numbers1_bits_ring_5.f k a b c d) (bits_numbers1_bits_ring_5.f (k+1) a b c d):=by
 unfold bits_numbers1_bits_ring_5.f
 repeat' first
   | (with_reducible exact bits_u.mono _ _ _)
   | (with_reducible exact bits_ring_5.mono _ _ _ _ _)
   | (with_reducible exact LeO.refl _)
   | (with_reducible refine LeO.bind ?_ (fun _=>?_))
theorem ring_52 (w:World):Calls Tryz.prog 58 #[.int .i64 52] w fun e w'=>e=.returned (.func (.func 130) #[] #[])∧w'=w:=by
 go_enter Tryz.func58,Tryz.ntmps58
 go_wp2
 go_ret
 exact⟨rfl,rfl⟩
theorem operators_52 (w:World):Calls Tryz.prog 31 #[.int .i64 52] w fun e w'=>∃g2,w.heap.size≤g2∧e=.returned (.tuple #[.agg #[.int .i64 2,.int .i64 0,.nilFunc,.func (.func 127) #[] #[.pointer (some ⟨g2,0,none⟩)]],.bool true])∧w'.heap[g2]? = some (.cells #[.func (.func 130) #[] #[]] 100 (0,0))∧Below w.heap.size w w':=by
 have aa:=Tryz.underlying65
 have K:=Kp.refl w
 go_enter Tryz.func31,Tryz.ntmps31
 go_wp2_with (first
  | ((with_reducible refine gate_dst (N:=2) rfl ?_);refine kbe 2 #[.int .i64 0,.int .i64 0,.nilFunc,.nilFunc] 65 ?_;intro g1 hg W2 hx hb;replace K:=K.u.box hg hx hb;clear hg hx hb)
  | ((with_reducible refine gate_dst (N:=43) rfl ?_);refine kgl (some 43) rfl rfl Tryz.func58 #[.int .i64 52] rfl ?_;refine(ring_52 _).mono ?_;rintro e W3 ⟨rfl,rfl⟩;refine⟨_,rfl,?_⟩)
  | ((with_reducible refine gate_dst (N:=44) rfl ?_);refine kgl (some 44) rfl rfl Tryz.func57 #[.func (.func 130) #[] #[]] rfl ?_;refine(numbers_call 130 _).mono ?_;rintro e W4 ⟨g2,hg,rfl,hx,hb⟩;refine⟨_,rfl,?_⟩;replace K:=K.u.box hg hx hb;have hge:w.heap.size≤g2:=(K.blk _ (List.mem_of_getElem? (i:=1) rfl)).1;clear hg hx hb)
  | ((with_reducible refine gate_store (t:=65) (p:=2) (v:=.tmp 45) rfl ?_);refine kstN 0 0 [.int .i64 2,.int .i64 0,.nilFunc,.func (.func 127) #[] #[.pointer (some ⟨g2,0,none⟩)]] K.u rfl ?qq ?_;(case qq=>intro hc hf;have c0:=hc 0 _ rfl;have f0:=hf 0;have c1:=hc 1 _ rfl;have f1:=hf 1;have c2:=hc 2 _ rfl;have f2:=hf 2;have c3:=hc 3 _ rfl;have f3:=hf 3;clear hc hf;first|(go_simp;done)|(go_simp;rfl));clear K;intro W5 K;simp only[kls,klv,kpl,kss]at K))
 refine bodyPost_ret (results_list (rs:=[.cell 2 65,.tmp 3]) rfl F1 (.cell g1 65 #[.int .i64 2,.int .i64 0,.nilFunc,.func (.func 127) #[] #[.pointer (some ⟨g2,0,none⟩)]] (0,0) _ rfl (K.u.heap 0 rfl) Tryz.underlying65 rfl Z0 (.tmp .nil))) rfl ?_
 exact⟨g2,hge,rfl,K.u.heap 1 rfl,K.u.below⟩
theorem ring_51 (w:World):Calls Tryz.prog 58 #[.int .i64 51] w fun e w'=>e=.returned (.func (.func 133) #[] #[])∧w'=w:=by
 go_enter Tryz.func58,Tryz.ntmps58
 go_wp2
 go_ret
 exact⟨rfl,rfl⟩
theorem operators_51 (w:World):Calls Tryz.prog 31 #[.int .i64 51] w fun e w'=>∃g2,w.heap.size≤g2∧e=.returned (.tuple #[.agg #[.int .i64 2,.int .i64 0,.func (.func 59) #[] #[],.func (.func 127) #[] #[.pointer (some ⟨g2,0,none⟩)]],.bool true])∧w'.heap[g2]? = some (.cells #[.func (.func 133) #[] #[]] 100 (0,0))∧Below w.heap.size w w':=by
 have aa:=Tryz.underlying65
 have K:=Kp.refl w
 go_enter Tryz.func31,Tryz.ntmps31
 go_wp2_with (first
  | ((with_reducible refine gate_dst (N:=2) rfl ?_);refine kbe 2 #[.int .i64 0,.int .i64 0,.nilFunc,.nilFunc] 65 ?_;intro g1 hg W2 hx hb;replace K:=K.u.box hg hx hb;clear hg hx hb)
  | ((with_reducible refine gate_dst (N:=49) rfl ?_);refine kgl (some 49) rfl rfl Tryz.func58 #[.int .i64 51] rfl ?_;refine(ring_51 _).mono ?_;rintro e W3 ⟨rfl,rfl⟩;refine⟨_,rfl,?_⟩)
  | ((with_reducible refine gate_dst (N:=50) rfl ?_);refine kgl (some 50) rfl rfl Tryz.func57 #[.func (.func 133) #[] #[]] rfl ?_;refine(numbers_call 133 _).mono ?_;rintro e W4 ⟨g2,hg,rfl,hx,hb⟩;refine⟨_,rfl,?_⟩;replace K:=K.u.box hg hx hb;have hge:w.heap.size≤g2:=(K.blk _ (List.mem_of_getElem? (i:=1) rfl)).1;clear hg hx hb)
  | ((with_reducible refine gate_store (t:=65) (p:=2) (v:=.tmp 51) rfl ?_);refine kstN 0 0 [.int .i64 2,.int .i64 0,.func (.func 59) #[] #[],.func (.func 127) #[] #[.pointer (some ⟨g2,0,none⟩)]] K.u rfl ?qq ?_;(case qq=>intro hc hf;have c0:=hc 0 _ rfl;have f0:=hf 0;have c1:=hc 1 _ rfl;have f1:=hf 1;have c2:=hc 2 _ rfl;have f2:=hf 2;have c3:=hc 3 _ rfl;have f3:=hf 3;clear hc hf;first|(go_simp;done)|(go_simp;rfl));clear K;intro W5 K;simp only[kls,klv,kpl,kss]at K))
 refine bodyPost_ret (results_list (rs:=[.cell 2 65,.tmp 3]) rfl F1 (.cell g1 65 #[.int .i64 2,.int .i64 0,.func (.func 59) #[] #[],.func (.func 127) #[] #[.pointer (some ⟨g2,0,none⟩)]] (0,0) _ rfl (K.u.heap 0 rfl) Tryz.underlying65 rfl Z0 (.tmp .nil))) rfl ?_
 exact⟨g2,hge,rfl,K.u.heap 1 rfl,K.u.below⟩
theorem bits_Apply_52.calls (k:Nat) (A1:Option Addr) (c1:Nat) (l1:List Int) (A2:Option Addr) (c2:Nat) (x y:S28) (r1:Int) (r2:List Int) (r3:Int) (w:World) (hr2:Kd.C k28 w A2 2 [x,y]) (hc2:2≤c2) (h:bits_apply2 k (bits_numbers1_bits_ring_2.f k) id 52 [x,y]=some (r1,r2,r3)) :
  Calls Tryz.prog 11 #[.int .i64 52,.slice A1 l1.length c1,.slice A2 2 c2] w fun e w'=>∃v1_:Value,e=.returned (.tuple #[.agg #[.int .i64 r1,v1_],.int .i64 r3])∧Kd.R (Kd.int .u64) 48 w' w.heap.size (fun _=>True) v1_ r2∧Below w.heap.size w w':=by
 have aa:=Tryz.underlying65
 have ab:=Tryz.underlying28
 obtain⟨bk,o,B1,d1,B2,d2,rfl,hE0,hX,hY⟩:=vec_two hr2
 have HX:=Aside0.mk hX
 have HY:=Aside0.mk hY
 have HE:=Aside0.mk hE0
 clear hX hY hE0
 rw[bits_apply2]at h
 obtain⟨er,hE,h⟩:=Option.bind_eq_some_iff.1 h
 have K:=Kp.refl w
 by_cases ce:er=0
 ·rw[if_pos ce]at h
  subst ce
  split at h
  ·cases h
  rename_i hw
  obtain⟨n,hn,h⟩:=Option.bind_eq_some_iff.1 h
  obtain⟨r,hr,h⟩:=Option.bind_eq_some_iff.1 h
  obtain⟨n1,n2⟩:=n
  obtain⟨q1,q2⟩:=r
  simp only[Option.some.injEq,Prod.mk.injEq]at h
  obtain⟨rfl,rfl,rfl⟩:=h
  have HN:=Aside0.mk hn
  have HR:=Aside0.mk hr
  have HV:=Aside0.mk hE
  have HW:¬(x.f0>(4096:Int)):=hw
  clear hn hr hE hw
  have hnil:=neq_nil
  have hfun:=neq_fun
  have HWb:decide (x.f0>(4096:Int))=false:=decide_eq_false HW
  go_enter Tryz.func11,Tryz.ntmps11
  go_wp2_with (first
  | ((with_reducible refine gate_dst (N:=6) rfl ?_);refine kbe 6 #[.int .i64 0,.slice none 0 0] 28 ?_;intro g1 hg W2 hx hb;replace K:=K.u.box hg hx hb;clear hg hx hb)
  | ((with_reducible refine gate_dst (N:=14) rfl ?_);refine kgl (some 14) rfl rfl Tryz.func31 #[.int .i64 52] rfl ?_;refine(operators_52 _).mono ?_;rintro e W3 ⟨g2,hge,rfl,hx,hb⟩;refine⟨_,rfl,?_⟩;replace K:=addBox K.u hge hx hb;clear hge hx hb)
  | ((with_reducible refine gate_dst (N:=8) rfl ?_);refine kbe 8 #[.int .i64 0,.int .i64 0,.nilFunc,.nilFunc] 65 ?_;intro g8 hg W4 hx hb;replace K:=K.u.box hg hx hb;clear hg hx hb)
  | ((with_reducible refine gate_store (t:=65) (p:=8) (v:=.tmp 15) rfl ?_);refine kstN 2 0 [.int .i64 2,.int .i64 0,.nilFunc,.func (.func 127) #[] #[.pointer (some ⟨g2,0,none⟩)]] K.u rfl ?qq ?_;(case qq=>intro hc hf;have c0:=hc 0 _ rfl;have f0:=hf 0;have c1:=hc 1 _ rfl;have f1:=hf 1;have c2:=hc 2 _ rfl;have f2:=hf 2;have c3:=hc 3 _ rfl;have f3:=hf 3;clear hc hf;first|(go_simp;done)|(go_simp;rfl));clear K;intro W5 K;simp only[kls,klv,kpl,kss]at K;have v80:=K.cell 2 rfl 0 rfl;have v81:=K.cell 2 rfl 1 rfl;have v82:=K.cell 2 rfl 2 rfl;have v83:=K.cell 2 rfl 3 rfl)
  | ((with_reducible refine gate_dst (N:=30) rfl ?_);refine kgl (some 30) rfl rfl Tryz.func32 #[.int .i64 52,.int .i64 0,.slice A1 l1.length c1] rfl ?_;refine(params_0 _ _ _).mono ?_;rintro e W6 ⟨rfl,rfl⟩;refine⟨_,rfl,?_⟩)
  | ((with_reducible refine gate_dst (N:=35) rfl ?_);clear v80 v81 v82 v83;refine kgl (some 35) rfl rfl Tryz.func33 #[.int .i64 52,.slice (some ⟨bk,o,none⟩) 2 c2] rfl ?_;refine(bits_vectors.calls k 52 _ _ [x,y] 0 _ (Kd.C_below hr2 K.u.below) hc2 HV.out).mono ?_;rintro e W7 ⟨rfl,hb⟩;refine⟨_,rfl,?_⟩;replace K:=K.u.up hb;clear hb;have v80:=K.cell 2 rfl 0 rfl;have v81:=K.cell 2 rfl 1 rfl;have v82:=K.cell 2 rfl 2 rfl;have v83:=K.cell 2 rfl 3 rfl;have e0:=below_cell K.below HE.out.1))
  go_region
  replace K:=K.up (below_drew (Below.refl _ _))
  clear v80 v81 v82 v83
  clear e0
  have v83:=K.cell 2 rfl 3 rfl
  go_wp2_with (first
  | (go_at_call 127;clear v83;refine(bits_numbers1_bits_ring_2.calls k _ bk o c2 g2 x.f0 B1 d1 x.f1 y.f0 B2 d2 y.f1 n1 n2 _ (K.cell 1 rfl 0 rfl) (below_cell K.below HE.out.1) (below_cell K.below HE.out.2.1) (below_cell K.below HE.out.2.2.1) (below_cell K.below HE.out.2.2.2) (Kd.C_below HX.out.2 K.below) HX.out.1 (Kd.C_below HY.out.2 K.below) HY.out.1 HN.out).mono ?_;rintro e W9 ⟨v1,rfl,ho,hb⟩;replace K:=K.addF (fun _=>False) hb ho;clear hb ho;obtain⟨P3,d3,q3⟩:=K.slice 0 rfl;subst q3)
  | (go_at_call 34;refine(bits_of.calls k (x.f0) n1 _ _ n2 q1 q2 _ (K.C 0 rfl) (K.le 0 rfl) HR.out).mono ?_;rintro e W10 ⟨v2,rfl,ho,hb⟩;replace K:=K.addRE hb ho;clear hb ho;obtain⟨P4,d4,q4⟩:=K.slice 1 rfl;subst q4)
  | ((with_reducible refine gate_store (t:=28) (p:=6) (v:=.tmp 75) rfl ?_);refine kst2 0 (.int .i64 q1) (.slice P4 q2.length d4) K.u rfl ?qp ?_;(case qp=>intro c0 c1 f0 f1;first|(go_simp;done)|(go_simp;rfl));clear K;intro W11 K;simp only[kls,klv]at K))
  refine bodyPost_ret (results_list (rs:=[.cell 6 28,.tmp 7]) rfl F1 (.cell g1 28 #[.int .i64 q1,.slice P4 q2.length d4] (0,0) _ rfl (K.u.heap 0 rfl) Tryz.underlying28 rfl Z0 (.tmp .nil))) rfl ?_
  exact⟨_,rfl,K.u.R 0 rfl,K.u.below⟩
 rw[if_neg ce]at h
 simp only[Option.some.injEq,Prod.mk.injEq]at h
 obtain⟨rfl,rfl,rfl⟩:=h
 have ceb:(er != 0)=true:=by simpa using ce
 go_enter Tryz.func11,Tryz.ntmps11
 go_wp2_with (first
 | ((with_reducible refine gate_dst (N:=6) rfl ?_);refine kbe 6 #[.int .i64 0,.slice none 0 0] 28 ?_;intro g1 hg W2 hx hb;replace K:=K.u.box hg hx hb;clear hg hx hb)
 | ((with_reducible refine gate_dst (N:=14) rfl ?_);refine kgl (some 14) rfl rfl Tryz.func31 #[.int .i64 52] rfl ?_;refine(operators_52 _).mono ?_;rintro e W3 ⟨g2,hge,rfl,hx,hb⟩;refine⟨_,rfl,?_⟩;replace K:=addBox K.u hge hx hb;clear hge hx hb)
 | ((with_reducible refine gate_dst (N:=8) rfl ?_);refine kbe 8 #[.int .i64 0,.int .i64 0,.nilFunc,.nilFunc] 65 ?_;intro g8 hg W4 hx hb;replace K:=K.u.box hg hx hb;clear hg hx hb)
 | ((with_reducible refine gate_store (t:=65) (p:=8) (v:=.tmp 15) rfl ?_);refine kstN 2 0 [.int .i64 2,.int .i64 0,.nilFunc,.func (.func 127) #[] #[.pointer (some ⟨g2,0,none⟩)]] K.u rfl ?qq ?_;(case qq=>intro hc hf;have c0:=hc 0 _ rfl;have f0:=hf 0;have c1:=hc 1 _ rfl;have f1:=hf 1;have c2:=hc 2 _ rfl;have f2:=hf 2;have c3:=hc 3 _ rfl;have f3:=hf 3;clear hc hf;first|(go_simp;done)|(go_simp;rfl));clear K;intro W5 K;simp only[kls,klv,kpl,kss]at K;have v80:=K.cell 2 rfl 0 rfl;have v81:=K.cell 2 rfl 1 rfl;have v82:=K.cell 2 rfl 2 rfl;have v83:=K.cell 2 rfl 3 rfl)
 | ((with_reducible refine gate_dst (N:=30) rfl ?_);refine kgl (some 30) rfl rfl Tryz.func32 #[.int .i64 52,.int .i64 0,.slice A1 l1.length c1] rfl ?_;refine(params_0 _ _ _).mono ?_;rintro e W6 ⟨rfl,rfl⟩;refine⟨_,rfl,?_⟩)
 | ((with_reducible refine gate_dst (N:=35) rfl ?_);clear v80 v81 v82 v83;refine kgl (some 35) rfl rfl Tryz.func33 #[.int .i64 52,.slice (some ⟨bk,o,none⟩) 2 c2] rfl ?_;refine(bits_vectors.calls k 52 _ _ [x,y] er _ (Kd.C_below hr2 K.u.below) hc2 hE).mono ?_;rintro e W7 ⟨rfl,hb⟩;refine⟨_,rfl,?_⟩;replace K:=K.u.up hb;clear hb;have v80:=K.cell 2 rfl 0 rfl;have v81:=K.cell 2 rfl 1 rfl;have v82:=K.cell 2 rfl 2 rfl;have v83:=K.cell 2 rfl 3 rfl)
 | ((with_reducible refine gate_store (t:=28) (p:=6) (v:=.tmp 38) rfl ?_);clear v80 v81 v82 v83;refine kst2 0 (.int .i64 0) (.slice none 0 0) K.u rfl ?qp ?_;(case qp=>intro c0 c1 f0 f1;first|(go_simp;done)|(go_simp;rfl));clear K;intro W9 K;simp only[kls,klv]at K))
 refine bodyPost_ret (results_list (rs:=[.cell 6 28,.tmp 7]) rfl F1 (.cell g1 28 #[.int .i64 0,.slice none 0 0] (0,0) _ rfl (K.u.heap 0 rfl) Tryz.underlying28 rfl Z0 (.tmp .nil))) rfl ?_
 exact⟨_,rfl,Kd.R_nil _ _ _ _ _,K.u.below⟩
theorem bits_Apply_51.calls (k:Nat) (A1:Option Addr) (c1:Nat) (l1:List Int) (A2:Option Addr) (c2:Nat) (x y:S28) (r1:Int) (r2:List Int) (r3:Int) (w:World) (hr2:Kd.C k28 w A2 2 [x,y]) (hc2:2≤c2) (h:bits_apply2 k (bits_numbers1_bits_ring_5.f k) (fun _=>1) 51 [x,y]=some (r1,r2,r3)) :
  Calls Tryz.prog 11 #[.int .i64 51,.slice A1 l1.length c1,.slice A2 2 c2] w fun e w'=>∃v1_:Value,e=.returned (.tuple #[.agg #[.int .i64 r1,v1_],.int .i64 r3])∧Kd.R (Kd.int .u64) 48 w' w.heap.size (fun _=>True) v1_ r2∧Below w.heap.size w w':=by
 have aa:=Tryz.underlying65
 have ab:=Tryz.underlying28
 obtain⟨bk,o,B1,d1,B2,d2,rfl,hE0,hX,hY⟩:=vec_two hr2
 have HX:=Aside0.mk hX
 have HY:=Aside0.mk hY
 have HE:=Aside0.mk hE0
 clear hX hY hE0
 rw[bits_apply2]at h
 obtain⟨er,hE,h⟩:=Option.bind_eq_some_iff.1 h
 have K:=Kp.refl w
 by_cases ce:er=0
 ·rw[if_pos ce]at h
  subst ce
  split at h
  ·cases h
  rename_i hw
  obtain⟨n,hn,h⟩:=Option.bind_eq_some_iff.1 h
  obtain⟨r,hr,h⟩:=Option.bind_eq_some_iff.1 h
  obtain⟨n1,n2⟩:=n
  obtain⟨q1,q2⟩:=r
  simp only[Option.some.injEq,Prod.mk.injEq]at h
  obtain⟨rfl,rfl,rfl⟩:=h
  have HN:=Aside0.mk hn
  have HR:=Aside0.mk hr
  have HV:=Aside0.mk hE
  have HW:¬(1>(4096:Int)):=hw
  clear hn hr hE hw
  have hnil:=neq_nil
  have hfun:=neq_fun
  have HWb:decide (1>(4096:Int))=false:=decide_eq_false HW
  go_enter Tryz.func11,Tryz.ntmps11
  go_wp2_with (first
  | ((with_reducible refine gate_dst (N:=6) rfl ?_);refine kbe 6 #[.int .i64 0,.slice none 0 0] 28 ?_;intro g1 hg W2 hx hb;replace K:=K.u.box hg hx hb;clear hg hx hb)
  | ((with_reducible refine gate_dst (N:=14) rfl ?_);refine kgl (some 14) rfl rfl Tryz.func31 #[.int .i64 51] rfl ?_;refine(operators_51 _).mono ?_;rintro e W3 ⟨g2,hge,rfl,hx,hb⟩;refine⟨_,rfl,?_⟩;replace K:=addBox K.u hge hx hb;clear hge hx hb)
  | ((with_reducible refine gate_dst (N:=8) rfl ?_);refine kbe 8 #[.int .i64 0,.int .i64 0,.nilFunc,.nilFunc] 65 ?_;intro g8 hg W4 hx hb;replace K:=K.u.box hg hx hb;clear hg hx hb)
  | ((with_reducible refine gate_store (t:=65) (p:=8) (v:=.tmp 15) rfl ?_);refine kstN 2 0 [.int .i64 2,.int .i64 0,.func (.func 59) #[] #[],.func (.func 127) #[] #[.pointer (some ⟨g2,0,none⟩)]] K.u rfl ?qq ?_;(case qq=>intro hc hf;have c0:=hc 0 _ rfl;have f0:=hf 0;have c1:=hc 1 _ rfl;have f1:=hf 1;have c2:=hc 2 _ rfl;have f2:=hf 2;have c3:=hc 3 _ rfl;have f3:=hf 3;clear hc hf;first|(go_simp;done)|(go_simp;rfl));clear K;intro W5 K;simp only[kls,klv,kpl,kss]at K;have v80:=K.cell 2 rfl 0 rfl;have v81:=K.cell 2 rfl 1 rfl;have v82:=K.cell 2 rfl 2 rfl;have v83:=K.cell 2 rfl 3 rfl)
  | ((with_reducible refine gate_dst (N:=30) rfl ?_);refine kgl (some 30) rfl rfl Tryz.func32 #[.int .i64 51,.int .i64 0,.slice A1 l1.length c1] rfl ?_;refine(params_0 _ _ _).mono ?_;rintro e W6 ⟨rfl,rfl⟩;refine⟨_,rfl,?_⟩)
  | ((with_reducible refine gate_dst (N:=35) rfl ?_);clear v80 v81 v82 v83;refine kgl (some 35) rfl rfl Tryz.func33 #[.int .i64 51,.slice (some ⟨bk,o,none⟩) 2 c2] rfl ?_;refine(bits_vectors.calls k 51 _ _ [x,y] 0 _ (Kd.C_below hr2 K.u.below) hc2 HV.out).mono ?_;rintro e W7 ⟨rfl,hb⟩;refine⟨_,rfl,?_⟩;replace K:=K.u.up hb;clear hb;have v80:=K.cell 2 rfl 0 rfl;have v81:=K.cell 2 rfl 1 rfl;have v82:=K.cell 2 rfl 2 rfl;have v83:=K.cell 2 rfl 3 rfl;have e0:=below_cell K.below HE.out.1)
  | (go_at_call 59;refine(operators_1 _ _ _).mono ?_;rintro e W8 ⟨rfl,rfl⟩))
  go_region
  replace K:=K.up (below_drew (Below.refl _ _))
  clear v80 v81 v82 v83
  clear e0
  have v83:=K.cell 2 rfl 3 rfl
  go_wp2_with (first
  | (go_at_call 127;clear v83;refine(bits_numbers1_bits_ring_5.calls k _ bk o c2 g2 x.f0 B1 d1 x.f1 y.f0 B2 d2 y.f1 n1 n2 _ (K.cell 1 rfl 0 rfl) (below_cell K.below HE.out.1) (below_cell K.below HE.out.2.1) (below_cell K.below HE.out.2.2.1) (below_cell K.below HE.out.2.2.2) (Kd.C_below HX.out.2 K.below) HX.out.1 (Kd.C_below HY.out.2 K.below) HY.out.1 HN.out).mono ?_;rintro e W9 ⟨v1,rfl,ho,hb⟩;replace K:=K.addF (fun _=>False) hb ho;clear hb ho;obtain⟨P3,d3,q3⟩:=K.slice 0 rfl;subst q3)
  | (go_at_call 34;refine(bits_of.calls k (1) n1 _ _ n2 q1 q2 _ (K.C 0 rfl) (K.le 0 rfl) HR.out).mono ?_;rintro e W10 ⟨v2,rfl,ho,hb⟩;replace K:=K.addRE hb ho;clear hb ho;obtain⟨P4,d4,q4⟩:=K.slice 1 rfl;subst q4)
  | ((with_reducible refine gate_store (t:=28) (p:=6) (v:=.tmp 75) rfl ?_);refine kst2 0 (.int .i64 q1) (.slice P4 q2.length d4) K.u rfl ?qp ?_;(case qp=>intro c0 c1 f0 f1;first|(go_simp;done)|(go_simp;rfl));clear K;intro W11 K;simp only[kls,klv]at K))
  refine bodyPost_ret (results_list (rs:=[.cell 6 28,.tmp 7]) rfl F1 (.cell g1 28 #[.int .i64 q1,.slice P4 q2.length d4] (0,0) _ rfl (K.u.heap 0 rfl) Tryz.underlying28 rfl Z0 (.tmp .nil))) rfl ?_
  exact⟨_,rfl,K.u.R 0 rfl,K.u.below⟩
 rw[if_neg ce]at h
 simp only[Option.some.injEq,Prod.mk.injEq]at h
 obtain⟨rfl,rfl,rfl⟩:=h
 have ceb:(er != 0)=true:=by simpa using ce
 go_enter Tryz.func11,Tryz.ntmps11
 go_wp2_with (first
 | ((with_reducible refine gate_dst (N:=6) rfl ?_);refine kbe 6 #[.int .i64 0,.slice none 0 0] 28 ?_;intro g1 hg W2 hx hb;replace K:=K.u.box hg hx hb;clear hg hx hb)
 | ((with_reducible refine gate_dst (N:=14) rfl ?_);refine kgl (some 14) rfl rfl Tryz.func31 #[.int .i64 51] rfl ?_;refine(operators_51 _).mono ?_;rintro e W3 ⟨g2,hge,rfl,hx,hb⟩;refine⟨_,rfl,?_⟩;replace K:=addBox K.u hge hx hb;clear hge hx hb)
 | ((with_reducible refine gate_dst (N:=8) rfl ?_);refine kbe 8 #[.int .i64 0,.int .i64 0,.nilFunc,.nilFunc] 65 ?_;intro g8 hg W4 hx hb;replace K:=K.u.box hg hx hb;clear hg hx hb)
 | ((with_reducible refine gate_store (t:=65) (p:=8) (v:=.tmp 15) rfl ?_);refine kstN 2 0 [.int .i64 2,.int .i64 0,.func (.func 59) #[] #[],.func (.func 127) #[] #[.pointer (some ⟨g2,0,none⟩)]] K.u rfl ?qq ?_;(case qq=>intro hc hf;have c0:=hc 0 _ rfl;have f0:=hf 0;have c1:=hc 1 _ rfl;have f1:=hf 1;have c2:=hc 2 _ rfl;have f2:=hf 2;have c3:=hc 3 _ rfl;have f3:=hf 3;clear hc hf;first|(go_simp;done)|(go_simp;rfl));clear K;intro W5 K;simp only[kls,klv,kpl,kss]at K;have v80:=K.cell 2 rfl 0 rfl;have v81:=K.cell 2 rfl 1 rfl;have v82:=K.cell 2 rfl 2 rfl;have v83:=K.cell 2 rfl 3 rfl)
 | ((with_reducible refine gate_dst (N:=30) rfl ?_);refine kgl (some 30) rfl rfl Tryz.func32 #[.int .i64 51,.int .i64 0,.slice A1 l1.length c1] rfl ?_;refine(params_0 _ _ _).mono ?_;rintro e W6 ⟨rfl,rfl⟩;refine⟨_,rfl,?_⟩)
 | ((with_reducible refine gate_dst (N:=35) rfl ?_);clear v80 v81 v82 v83;refine kgl (some 35) rfl rfl Tryz.func33 #[.int .i64 51,.slice (some ⟨bk,o,none⟩) 2 c2] rfl ?_;refine(bits_vectors.calls k 51 _ _ [x,y] er _ (Kd.C_below hr2 K.u.below) hc2 hE).mono ?_;rintro e W7 ⟨rfl,hb⟩;refine⟨_,rfl,?_⟩;replace K:=K.u.up hb;clear hb;have v80:=K.cell 2 rfl 0 rfl;have v81:=K.cell 2 rfl 1 rfl;have v82:=K.cell 2 rfl 2 rfl;have v83:=K.cell 2 rfl 3 rfl)
 | ((with_reducible refine gate_store (t:=28) (p:=6) (v:=.tmp 38) rfl ?_);clear v80 v81 v82 v83;refine kst2 0 (.int .i64 0) (.slice none 0 0) K.u rfl ?qp ?_;(case qp=>intro c0 c1 f0 f1;first|(go_simp;done)|(go_simp;rfl));clear K;intro W9 K;simp only[kls,klv]at K))
 refine bodyPost_ret (results_list (rs:=[.cell 6 28,.tmp 7]) rfl F1 (.cell g1 28 #[.int .i64 0,.slice none 0 0] (0,0) _ rfl (K.u.heap 0 rfl) Tryz.underlying28 rfl Z0 (.tmp .nil))) rfl ?_
 exact⟨_,rfl,Kd.R_nil _ _ _ _ _,K.u.below⟩
def bits_Apply.f (k:Nat) (a0:Int) (_p:List Int) (l:List S28):Option (Int×List Int×Int):=
 if a0=52 then bits_apply2 k (bits_numbers1_bits_ring_2.f k) id 52 l else if a0=51 then bits_apply2 k (bits_numbers1_bits_ring_5.f k) (fun _=>1) 51 l else none
theorem bits_apply2_mono (k:Nat) (go go':Int→List Int→Int→List Int→Option (Bool×List Int)) (hgo:∀a b c d,LeO (go a b c d) (go' a b c d)) (wd:Int→Int) (a0:Int) (l:List S28):LeO (bits_apply2 k go wd a0 l) (bits_apply2 (k+1) go' wd a0 l):=by
 unfold bits_apply2
 split
 ·repeat' first
   | (with_reducible exact bits_vectors.mono _ _ _)
   | (with_reducible exact hgo _ _ _ _)
   | (with_reducible exact bits_of.mono _ _ _ _)
   | (with_reducible exact LeO.refl _)
   | (with_reducible exact LeO.none _)
   | (with_reducible refine LeO.ite ?_ ?_)
   | (with_reducible refine LeO.bind ?_ (fun _=>?_))
   | exact bits_of.mono _ _ _
 exact LeO.refl _
theorem bits_Apply.mono (a0:Int) (p:List Int) (l:List S28) (k:Nat):LeO (bits_Apply.f k a0 p l) (bits_Apply.f (k+1) a0 p l):=by
 unfold bits_Apply.f
 refine LeO.ite ?_ (LeO.ite ?_ (LeO.refl _))
 ·exact bits_apply2_mono k _ _ (fun a b c d=>bits_numbers1_bits_ring_2.mono a b c d k) _ _ _
 exact bits_apply2_mono k _ _ (fun a b c d=>bits_numbers1_bits_ring_5.mono a b c d k) _ _ _
theorem bits_Apply.calls (k:Nat) (a0:Int) (A1:Option Addr) (c1:Nat) (l1:List Int) (A2:Option Addr) (c2:Nat) (l2:List S28) (r1:Int) (r2:List Int) (r3:Int) (w:World) (hr1:Kd.C (Kd.int .i64) w A1 l1.length l1) (hc1:l1.length≤c1) (hr2:Kd.C k28 w A2 l2.length l2) (hc2:l2.length≤c2) (h:bits_Apply.f k a0 l1 l2=some (r1,r2,r3)) :
  Calls Tryz.prog 11 #[.int .i64 a0,.slice A1 l1.length c1,.slice A2 l2.length c2] w fun e w'=>∃v1_:Value,e=.returned (.tuple #[.agg #[.int .i64 r1,v1_],.int .i64 r3])∧Kd.R (Kd.int .u64) 48 w' w.heap.size (fun _=>True) v1_ r2∧Below w.heap.size w w':=by
 unfold bits_Apply.f at h
 by_cases c:a0=52
 ·rw[if_pos c]at h
  subst c
  match l2,h,hr2,hc2 with
  | [x,y],h,hr2,hc2=>exact bits_Apply_52.calls k A1 c1 l1 A2 c2 x y r1 r2 r3 w hr2 hc2 h
  | [],h,_,_=>cases h
  | [_],h,_,_=>cases h
  | _::_::_::_,h,_,_=>cases h
 rw[if_neg c]at h
 by_cases d:a0=51
 ·rw[if_pos d]at h
  subst d
  match l2,h,hr2,hc2 with
  | [x,y],h,hr2,hc2=>exact bits_Apply_51.calls k A1 c1 l1 A2 c2 x y r1 r2 r3 w hr2 hc2 h
  | [],h,_,_=>cases h
  | [_],h,_,_=>cases h
  | _::_::_::_,h,_,_=>cases h
 rw[if_neg d]at h
 cases h
end Go.Proofs.YtncomlmhagaajaaGreat.PBo
end
namespace Go.Proofs.YtncomlmhagaajaaGreat.PBo
open Go.RowKit Go.Proofs.YtncomlmhagaajaaGreatW.PrintWords Go.Proofs.YtncomlmhagaajaaGreatW.PrintLast Go.Proofs.YtncomlmhagaajaaGreatW.PrintMore
open Go.Proofs.YtncomlmhagaajaaGreat.Mine
attribute [local go_sem] max2_int min2_int max_two min_two max_three min_three max_four min_four
def tribunallaw09_alive.f (k:Nat):Option (Bool):=(tribunallaw09_b.f k 4 7).bind fun bt859=>((tribunallaw09_b.f k 4 12).bind fun bt863=>((bits_Apply.f k 52 ([]:List Int) (([(⟨bt859.1,bt859.2⟩:S28),(⟨bt863.1,bt863.2⟩:S28)]:List (S28)))).bind fun bt870=>((tribunallaw09_b.f k 4 8).bind fun bt876=>((tribunallaw09_b.f k 4 7).bind fun bt880=>((bits_Holds.f k 72 bt876.1 bt876.2 bt880.1 bt880.2).bind fun bt884=>(if bt870.2.2=0 then(if bt884.2=0 then((tribunalref09_Same.f k bt870.1 bt870.2.1 4 (([3]:List Int))).bind fun t889=>(if t889=true then(some bt884.1) else(none))) else(none)) else(none)))))))
theorem tribunallaw09_alive.mono:∀k,LeO (tribunallaw09_alive.f k) (tribunallaw09_alive.f (k+1)):=by
 intro k
 unfold tribunallaw09_alive.f
 repeat' first
   | (with_reducible exact bits_Apply.mono _ _ _ _)
   | (with_reducible exact bits_Holds.mono _ _ _ _ _ _)
   | (with_reducible exact tribunallaw09_b.mono _ _ _)
   | (with_reducible exact tribunalref09_Same.mono _ _ _ _ _)
   | (with_reducible exact LeO.refl _)
   | (with_reducible exact LeO.none _)
   | (with_reducible refine LeO.ite ?_ ?_)
   | (with_reducible refine LeO.bind ?_ (fun _=>?_))
   | exact bits_Apply.mono _ _ _ _
   | exact bits_Holds.mono _ _ _ _ _ _
   | exact tribunallaw09_b.mono _ _ _
   | exact tribunalref09_Same.mono _ _ _ _ _
   | exact LeO.none _
   | refine LeO.ite ?_ ?_
   | refine LeO.bind ?_ (fun _=>?_)
theorem tribunallaw09_alive.calls (k:Nat) (r:Bool) (w:World) (h:tribunallaw09_alive.f k=some r) :
  Calls Tryz.prog 14 #[] w fun e w'=>e=.returned (.bool r)∧Below w.heap.size w w':=by
 have bj:=Tryz.underlying28
 have HB:=Aside0.mk (Below.refl w.heap.size w)
 have H:((tribunallaw09_b.f k 4 7).bind fun aE=>((tribunallaw09_b.f k 4 12).bind fun ao=>((bits_Apply.f k 52 ([]:List Int) (([(⟨aE.1,aE.2⟩:S28),(⟨ao.1,ao.2⟩:S28)]:List (S28)))).bind fun ad=>((tribunallaw09_b.f k 4 8).bind fun ae=>((tribunallaw09_b.f k 4 7).bind fun ab=>((bits_Holds.f k 72 ae.1 ae.2 ab.1 ab.2).bind fun aa=>(if ad.2.2=0 then(if aa.2=0 then((tribunalref09_Same.f k ad.1 ad.2.1 4 (([3]:List Int))).bind fun ac=>(if ac=true then(some aa.1) else(none))) else(none)) else(none))))))))=some r:=h
 clear h
 replace H:=Option.bind_eq_some_iff.mp H
 obtain⟨⟨ah,ai⟩,A10,H⟩:=H
 replace H:((tribunallaw09_b.f k 4 12).bind fun ao=>((bits_Apply.f k 52 ([]:List Int) (([(⟨ah,ai⟩:S28),(⟨ao.1,ao.2⟩:S28)]:List (S28)))).bind fun ad=>((tribunallaw09_b.f k 4 8).bind fun ae=>((tribunallaw09_b.f k 4 7).bind fun ab=>((bits_Holds.f k 72 ae.1 ae.2 ab.1 ab.2).bind fun aa=>(if ad.2.2=0 then(if aa.2=0 then((tribunalref09_Same.f k ad.1 ad.2.1 4 (([3]:List Int))).bind fun ac=>(if ac=true then(some aa.1) else(none))) else(none)) else(none)))))))=some r:=H
 have A1:=Aside0.mk A10
 clear A10
 replace H:=Option.bind_eq_some_iff.mp H
 obtain⟨⟨al,am⟩,A20,H⟩:=H
 replace H:((bits_Apply.f k 52 ([]:List Int) (([(⟨ah,ai⟩:S28),(⟨al,am⟩:S28)]:List (S28)))).bind fun ad=>((tribunallaw09_b.f k 4 8).bind fun ae=>((tribunallaw09_b.f k 4 7).bind fun ab=>((bits_Holds.f k 72 ae.1 ae.2 ab.1 ab.2).bind fun aa=>(if ad.2.2=0 then(if aa.2=0 then((tribunalref09_Same.f k ad.1 ad.2.1 4 (([3]:List Int))).bind fun ac=>(if ac=true then(some aa.1) else(none))) else(none)) else(none))))))=some r:=H
 have A2:=Aside0.mk A20
 clear A20
 obtain⟨aD,ap⟩:∃y_:List (S28),y_=(([(⟨ah,ai⟩:S28),(⟨al,am⟩:S28)]:List (S28))):=⟨_,rfl⟩
 replace H:((bits_Apply.f k 52 ([]:List Int) aD).bind fun ad=>((tribunallaw09_b.f k 4 8).bind fun ae=>((tribunallaw09_b.f k 4 7).bind fun ab=>((bits_Holds.f k 72 ae.1 ae.2 ab.1 ab.2).bind fun aa=>(if ad.2.2=0 then(if aa.2=0 then((tribunalref09_Same.f k ad.1 ad.2.1 4 (([3]:List Int))).bind fun ac=>(if ac=true then(some aa.1) else(none))) else(none)) else(none))))))=some r:=by first|(rw[ap];with_reducible exact H)|(have H2_:=(Option.bind_some _ _).symm.trans H;rw[ap];with_reducible exact H2_)|(have H2_:=(Option.bind_some _ _).symm.trans H;with_reducible exact H2_)|with_reducible exact H|(rw[ap];exact H)|exact H
 have aF:=Aside0.mk ap
 clear ap
 replace H:=Option.bind_eq_some_iff.mp H
 obtain⟨⟨t870,t871,an⟩,A30,H⟩:=H
 replace H:((tribunallaw09_b.f k 4 8).bind fun ae=>((tribunallaw09_b.f k 4 7).bind fun ab=>((bits_Holds.f k 72 ae.1 ae.2 ab.1 ab.2).bind fun aa=>(if an=0 then(if aa.2=0 then((tribunalref09_Same.f k t870 t871 4 (([3]:List Int))).bind fun ac=>(if ac=true then(some aa.1) else(none))) else(none)) else(none)))))=some r:=H
 have A3:=Aside0.mk A30
 clear A30
 replace H:=Option.bind_eq_some_iff.mp H
 obtain⟨⟨aw,au⟩,A40,H⟩:=H
 replace H:((tribunallaw09_b.f k 4 7).bind fun ab=>((bits_Holds.f k 72 aw au ab.1 ab.2).bind fun aa=>(if an=0 then(if aa.2=0 then((tribunalref09_Same.f k t870 t871 4 (([3]:List Int))).bind fun ac=>(if ac=true then(some aa.1) else(none))) else(none)) else(none))))=some r:=H
 have A4:=Aside0.mk A40
 clear A40
 replace H:=Option.bind_eq_some_iff.mp H
 obtain⟨⟨aB,ax⟩,A50,H⟩:=H
 replace H:((bits_Holds.f k 72 aw au aB ax).bind fun aa=>(if an=0 then(if aa.2=0 then((tribunalref09_Same.f k t870 t871 4 (([3]:List Int))).bind fun ac=>(if ac=true then(some aa.1) else(none))) else(none)) else(none)))=some r:=H
 have A5:=Aside0.mk A50
 clear A50
 replace H:=Option.bind_eq_some_iff.mp H
 obtain⟨⟨ay,az⟩,A60,H⟩:=H
 replace H:(if an=0 then(if az=0 then((tribunalref09_Same.f k t870 t871 4 (([3]:List Int))).bind fun ac=>(if ac=true then(some ay) else(none))) else(none)) else(none))=some r:=H
 have A6:=Aside0.mk A60
 clear A60
 by_cases c7:an=0
 ·rw[if_pos c7]at H
  have bk:(an==0)=true:=beq_iff_eq.mpr c7
  have bl:(an != 0)=false:=bne_eq_false_iff_eq.mpr c7
  clear c7
  by_cases c8:az=0
  ·rw[if_pos c8]at H
   have bn:(az==0)=true:=beq_iff_eq.mpr c8
   have bo:(az != 0)=false:=bne_eq_false_iff_eq.mpr c8
   clear c8
   obtain⟨aH,aq⟩:∃y_:List Int,y_=(([3]:List Int)):=⟨_,rfl⟩
   replace H:((tribunalref09_Same.f k t870 t871 4 aH).bind fun ac=>(if ac=true then(some ay) else(none)))=some r:=by first|(rw[aq];with_reducible exact H)|(have H2_:=(Option.bind_some _ _).symm.trans H;rw[aq];with_reducible exact H2_)|(have H2_:=(Option.bind_some _ _).symm.trans H;with_reducible exact H2_)|with_reducible exact H|(rw[aq];exact H)|exact H
   have aG:=Aside0.mk aq
   clear aq
   replace H:=Option.bind_eq_some_iff.mp H
   obtain⟨ac,A90,H⟩:=H
   replace H:(if ac=true then(some ay) else(none))=some r:=H
   have A9:=Aside0.mk A90
   clear A90
   by_cases c10:ac=true
   ·subst c10
    have H1:(some ay)=some r:=by rw[if_pos rfl]at H;exact H
    clear H
    have H:=H1
    clear H1
    obtain rfl:=Option.some.inj H
    go_enter Tryz.func14,Tryz.ntmps14
    go_wp2_with (first|((with_reducible refine gate_callee (f:=20) rfl ?_);refine kgl (some 6) rfl rfl Tryz.func20 #[.int .i64 4,.int .u64 7] rfl ?_;(with_reducible refine(tribunallaw09_b.calls k 4 7 ah ai _ A1.out).mono ?_);rintro e w11 ⟨bp,rfl,ho0,hb⟩;refine⟨_,rfl,?_⟩;have aj:=Aside0.mk (Kd.R_lower ho0 (below_size (khu HB.out)));replace HB:=kbs HB hb;(try clear hb);(try clear hb2);(try clear hk);(try clear hi);(try clear ho0))|((with_reducible refine gate_callee (f:=20) rfl ?_);refine kgl (some 7) rfl rfl Tryz.func20 #[.int .i64 4,.int .u64 12] rfl ?_;(with_reducible refine(tribunallaw09_b.calls k 4 12 al am _ A2.out).mono ?_);rintro e w12 ⟨bq,rfl,ho0,hb⟩;refine⟨_,rfl,?_⟩;have av:=Aside0.mk (Kd.R_lower (Kd.R_new' ho0 (Kd.R_lt (kru aj.out))) (below_size (khu HB.out)));replace aj:=Aside0.mk (Kd.R_elder' (kru aj.out) (Kd.R_base ho0) hb);replace HB:=kbs HB hb;(try clear hb);(try clear hb2);(try clear hk);(try clear hi);(try clear ho0);obtain⟨aI,aJ,aQ⟩:=Kd.R_slice aj.out;subst aQ;obtain⟨aK,aL,aR⟩:=Kd.R_slice av.out;subst aR)|(refine gd 8 rfl ?_;(try(refine gate_guard B0 ?_;dsimp only));refine Kd.N_lit k28 _ 28 ?hg (N':=8) ?hd (xs:=([(⟨ah,ai⟩:S28),(⟨al,am⟩:S28)]:List (S28))) (inner:=[.int .i64 ah,.slice aI ai.length aJ,.int .i64 al,.slice aK am.length aL]) (ok:=(fun _=>True)) (okp:=(fun _=>True)) ?hr ?hp (fun _ hk=>hk) ((show ∀k_,w12.heap.size≤k_→(fun _=>True) k_ from fun k_ hk=>trivial) _ (Nat.le_refl _)) (Below.refl _ _) (Nat.le_refl _) F1 ?_;(case hd=>rfl);(case hg=>rfl);(case hr=>first|(go_simp;done)|(go_simp;rfl));(case hp=>exact(Reps.c2 (show Kd.FK k28 _ _ (⟨ah,ai⟩:S28) [.int .i64 ah,.slice aI ai.length aJ] from(k28_mkF _ _ (⟨ah,ai⟩:S28) (Kd.R_reads' (Kd.R_mono (ok':=(fun _=>True)) (aj.out) (fun k_ hk=>trivial))).2.1 (Kd.R_F (Kd.R_mono (ok':=(fun _=>True)) (aj.out) (fun k_ hk=>trivial))))) (Reps.c2 (show Kd.FK k28 _ _ (⟨al,am⟩:S28) [.int .i64 al,.slice aK am.length aL] from(k28_mkF _ _ (⟨al,am⟩:S28) (Kd.R_reads' (Kd.R_mono (ok':=(fun _=>True)) (av.out) (fun k_ hk=>trivial))).2.1 (Kd.R_F (Kd.R_mono (ok':=(fun _=>True)) (av.out) (fun k_ hk=>trivial))))) (Reps.none _ _))));intro br w15 aA hb hg_ hnew_;clear hg_ hnew_;(first|rw[←aF.out]at aA|(simp only[Int.reduceToNat]at aA;rw[←aF.out]at aA));have HO869:=Aside0.mk (Kd.N_lower aA (below_size (khu HB.out)));replace HB:=kbs HB hb;clear aj av;clear hb aA;obtain⟨aS,aT,aU⟩:=Kd.N_slice HO869.out;subst aU)|((with_reducible refine gate_callee (f:=11) rfl ?_);refine kgl (some 9) rfl rfl Tryz.func11 #[.int .i64 52,.slice none 0 0,.slice aS aD.length aT] rfl ?_;(refine(bits_Apply.calls k 52 _ _ ([]:List Int) _ _ aD t870 t871 an _ ?side1 ?side2 ?side3 ?side4 A3.out).mono ?_);(case side1=>exact Kd.C_nil _ _);(case side2=>exact Nat.le_refl _);(case side3=>repeat (first|exact(Kd.N_reads' HO869.out).2.2|(with_reducible refine Kd.C_alloc ?_ _)|(with_reducible refine Kd.C_drewN ?_ _)|(with_reducible refine Kd.C_drew ?_)));(case side4=>exact(Kd.N_reads' HO869.out).2.1);rintro e w18 ⟨bu,rfl,ho0,hb⟩;refine⟨_,rfl,?_⟩;replace HO869:=Aside0.mk (Kd.N_elder' X2 (Kd.R_base ho0) hb);have HO873:=Aside0.mk (Kd.R_lower (Kd.R_mono (ok':=fun k_=>True) ho0 (fun _ hk_=>trivial)) (below_size (khu HB.out)));replace HB:=kbs HB hb;(try clear hb);(try clear hb2);(try clear hk);(try clear hi);(try clear ho0))|(refine gd 1 rfl ?_;(try(refine gate_guard B0 ?_;dsimp only));refine kbe 1 #[.int .i64 0,.slice none 0 0] 28 ?_;intro gb875 hg w19 hbox hb;replace HO869:=Aside0.mk (Kd.N_below (Kd.N_elderB X2 gb875 (Nat.le_of_eq hg.symm)) hb);replace HO873:=krb HO873 hb;have BK875:=Aside0.mk (hbox);have bi:=kbz hg HB;have aC:=kbz hg HB;replace HB:=kbs HB hb;clear hb hbox hg;have aZ:w19.cell? ⟨gb875,0,none⟩=some (.int .i64 0):=(blk_cell BK875.out 0).trans rfl;have bb:w19.cell? ⟨gb875,1,none⟩=some (.slice none 0 0):=(blk_cell BK875.out 1).trans rfl;have bc:=blk_frozen BK875.out 0;have bd:=blk_frozen BK875.out 1;obtain⟨Ao21,co21,aV⟩:=Kd.R_slice HO873.out;subst aV)|((with_reducible refine gate_callee (f:=20) rfl ?_);refine kgl (some 13) rfl rfl Tryz.func20 #[.int .i64 4,.int .u64 8] rfl ?_;(with_reducible refine(tribunallaw09_b.calls k 4 8 aw au _ A4.out).mono ?_);rintro e w22 ⟨bv,rfl,ho0,hb⟩;refine⟨_,rfl,?_⟩;replace HO869:=Aside0.mk (Kd.N_elder' (by(with_reducible repeat (first|apply Kd.N_alloc|apply Kd.N_drewN|apply Kd.N_drew));exact(Kd.N_mono (Kd.N_far (p:=⟨gb875,1,none⟩) (Kd.N_far (p:=⟨gb875,0,none⟩) (Kd.N_mono HO869.out (fun k_ hk=>(⟨hk,hk.2⟩:_∧k_≠gb875))) (fun _ hk=>hk.2) (.int .i64 t870)) (fun _ hk=>hk.2) (.slice Ao21 t871.length co21)) (fun _ h_=>h_.1))) (Kd.R_base ho0) hb);have af:=Aside0.mk (Kd.R_lower (Kd.R_new' ho0 (Kd.R_lt U3)) (below_size (by repeat (first|(with_reducible first|exact HB.out|apply below_alloc|apply pw_below_drewN|apply below_drew1|refine below_set ?_ aC.out)|exact HB.out))));replace HO873:=Aside0.mk (Kd.R_elder' U3 (Kd.R_base ho0) hb);replace BK875:=Aside0.mk (blk_below (g:=gb875) (o:=.cells #[.int .i64 t870,.slice Ao21 t871.length co21] 28 (0,0)) (kpu #[.int .i64 t870,.slice none 0 0] 1 (kpu #[.int .i64 0,.slice none 0 0] 0 (kbu BK875.out))) hb);replace HB:=Aside0.mk (below_step (by repeat (first|(with_reducible first|exact HB.out|apply below_alloc|apply pw_below_drewN|apply below_drew1|refine below_set ?_ aC.out)|exact HB.out)) hb);(try clear hb);(try clear hb2);(try clear hk);(try clear hi);(try clear ho0))|((with_reducible refine gate_callee (f:=20) rfl ?_);refine kgl (some 14) rfl rfl Tryz.func20 #[.int .i64 4,.int .u64 7] rfl ?_;(with_reducible refine(tribunallaw09_b.calls k 4 7 aB ax _ A5.out).mono ?_);rintro e w23 ⟨bw,rfl,ho0,hb⟩;refine⟨_,rfl,?_⟩;replace HO869:=Aside0.mk (Kd.N_elder' X2 (Kd.R_base ho0) hb);have ag:=Aside0.mk (Kd.R_lower (Kd.R_new' (Kd.R_new' ho0 (Kd.R_lt (kru HO873.out))) (Kd.R_lt (kru af.out))) (below_size (khu HB.out)));replace HO873:=Aside0.mk (Kd.R_elder' (kru HO873.out) (Kd.R_base ho0) hb);replace af:=Aside0.mk (Kd.R_elder' (kru af.out) (Kd.R_base ho0) hb);replace BK875:=kbb BK875 hb;replace HB:=kbs HB hb;(try clear hb);(try clear hb2);(try clear hk);(try clear hi);(try clear ho0);obtain⟨aM,aN,aW⟩:=Kd.R_slice af.out;subst aW;obtain⟨aO,aP,aX⟩:=Kd.R_slice ag.out;subst aX)|((with_reducible refine gate_callee (f:=15) rfl ?_);refine kgl (some 15) rfl rfl Tryz.func15 #[.int .i64 72,.agg #[.int .i64 aw,.slice aM au.length aN],.agg #[.int .i64 aB,.slice aO ax.length aP]] rfl ?_;(with_reducible refine(bits_Holds.calls k 72 aw (fun k_=>some k_=(.slice aM au.length aN:Value).ownBlock) _ _ au aB (fun k_=>some k_=(.slice aO ax.length aP:Value).ownBlock) _ _ ax ay az _ ?side1 ?side2 A6.out).mono ?_);(case side1=>exact Kd.R_V (Kd.R_tight rfl (Kd.R_types (Kd.R_apart' (af.out) (Kd.N_typed HO869.out) X0) BK875.out X0)));(case side2=>exact Kd.R_V (Kd.R_tight rfl (Kd.R_types (Kd.R_apart' (ag.out) (Kd.N_typed HO869.out) X0) BK875.out X0)));rintro e w26 ⟨rfl,hb⟩;refine⟨_,rfl,?_⟩;replace HO869:=Aside0.mk (Kd.N_below X2 hb);replace HO873:=krb HO873 hb;replace af:=krb af hb;replace ag:=krb ag hb;replace BK875:=kbb BK875 hb;replace HB:=kbs HB hb;(try clear hb);(try clear hb2);(try clear hk);(try clear hi);have be:w26.cell? ⟨gb875,0,none⟩=some (.int .i64 t870):=(blk_cell BK875.out 0).trans rfl;have bf:w26.cell? ⟨gb875,1,none⟩=some (.slice Ao21 t871.length co21):=(blk_cell BK875.out 1).trans rfl;have bg:=blk_frozen BK875.out 0;have bh:=blk_frozen BK875.out 1)|(refine gd 26 rfl ?_;(try(refine gate_guard B0 ?_;dsimp only));refine Kd.R_lit (Kd.int .u64) _ 48 ?hg (N:=26) ?hd (xs:=([3]:List Int)) (inner:=[.int .u64 3]) (ok:=fun _=>True) (okp:=fun _=>True) ?hr ?hp (fun _ hk=>hk) trivial (Below.refl _ _) (Nat.le_refl _) F1 ?_;(case hd=>rfl);(case hg=>rfl);(case hr=>first|(go_simp;done)|(go_simp;rfl));(case hp=>exact(Reps.one (show Kd.M (Kd.int .u64) _ _ _ 3 [.int .u64 3] from rfl) (Reps.none _ _)));intro bx w28 ak hb hg_ hnew_;clear hg_ hnew_;(first|rw[←aG.out]at ak|(simp only[Int.reduceToNat]at ak;rw[←aG.out]at ak));replace HO869:=Aside0.mk (Kd.N_elder' X2 (Kd.R_base ak) hb);have ar:=Aside0.mk (Kd.R_lower (Kd.R_new' (Kd.R_new' (Kd.R_new' ak (Kd.R_lt (kru HO873.out))) (Kd.R_lt (kru af.out))) (Kd.R_lt (kru ag.out))) (below_size (khu HB.out)));replace HO873:=Aside0.mk (Kd.R_elder' (kru HO873.out) (Kd.R_base ak) hb);replace af:=Aside0.mk (Kd.R_elder' (kru af.out) (Kd.R_base ak) hb);replace ag:=Aside0.mk (Kd.R_elder' (kru ag.out) (Kd.R_base ak) hb);replace BK875:=kbb BK875 hb;replace HB:=kbs HB hb;clear hb ak;obtain⟨bz,bA,aY⟩:=Kd.R_slice ar.out;subst aY)|(go_at_call 13;(with_reducible refine(tribunalref09_Same.calls k t870 _ _ t871 4 _ _ aH true _ ?side1 ?side2 ?side3 ?side4 A9.out).mono ?_);(case side1=>repeat (first|exact(Kd.R_reads' HO873.out).2.2|(with_reducible refine Kd.C_alloc ?_ _)|(with_reducible refine Kd.C_drewN ?_ _)|(with_reducible refine Kd.C_drew ?_)));(case side2=>exact(Kd.R_reads' HO873.out).2.1);(case side3=>repeat (first|exact(Kd.R_reads' ar.out).2.2|(with_reducible refine Kd.C_alloc ?_ _)|(with_reducible refine Kd.C_drewN ?_ _)|(with_reducible refine Kd.C_drew ?_)));(case side4=>exact(Kd.R_reads' ar.out).2.1);rintro e w31 ⟨rfl,hb⟩;replace HO869:=Aside0.mk (Kd.N_below X2 hb);replace HO873:=krb HO873 hb;replace af:=krb af hb;replace ag:=krb ag hb;replace ar:=krb ar hb;replace BK875:=kbb BK875 hb;replace HB:=kbs HB hb;(try clear hb);(try clear hb2);(try clear hk);(try clear hi)))
    go_ret
    exact⟨Z1,by repeat (first|(with_reducible first|exact HB.out|apply below_alloc|apply pw_below_drewN|apply below_drew1|refine below_set ?_ aC.out)|exact HB.out)⟩
   replace c10:=Bool.eq_false_iff.mpr c10
   subst c10
   have H1:(none)=some r:=by rw[if_neg (show ¬(false=true) by decide)]at H;exact H
   clear H
   have H:=H1
   clear H1
   exact absurd H F1
  rw[if_neg c8]at H
  exact absurd H F1
 rw[if_neg c7]at H
 exact absurd H F1
def tribunallaw09_BitsOrders.f (k:Nat) (a0_0:Int) (l0_1:List Int) (a1_0:Int) (l1_1:List Int):Option (Bool):=(bits_Holds.f k 68 a0_0 l0_1 a1_0 l1_1).bind fun bt1088=>((bits_Holds.f k 69 a0_0 l0_1 a1_0 l1_1).bind fun bt1090=>((bits_Holds.f k 70 a0_0 l0_1 a1_0 l1_1).bind fun bt1092=>((bits_Holds.f k 71 a0_0 l0_1 a1_0 l1_1).bind fun bt1094=>((bits_Holds.f k 72 a0_0 l0_1 a1_0 l1_1).bind fun bt1096=>((bits_Holds.f k 74 a0_0 l0_1 a1_0 l1_1).bind fun bt1098=>((bits_Holds.f k 73 a0_0 l0_1 a1_0 l1_1).bind fun bt1100=>((bits_Holds.f k 75 a0_0 l0_1 a1_0 l1_1).bind fun bt1102=>((bits_Apply.f k 51 ([]:List Int) (([(⟨a0_0,l0_1⟩:S28),(⟨a1_0,l1_1⟩:S28)]:List (S28)))).bind fun bt1107=>(if bt1088.2=0 then((bits_Holds.f k 68 a1_0 l1_1 a0_0 l0_1).bind fun bt1113=>(if(bt1096.2=0∧bt1107.2.2=0∧bt1113.2=0)∧((((bt1107.2.1.length:Int)==1)=false∧bt1088.1=true∧bt1090.1=true∧bt1092.1=false∧bt1094.1=false∧bt1096.1=true∧bt1098.1=false∧bt1100.1=true∧bt1102.1=false∧bt1113.1=false)∨(((bt1107.2.1.length:Int)==1)=false∧bt1088.1=true∧bt1090.1=true∧bt1092.1=false∧bt1094.1=false∧bt1096.1=false∧bt1098.1=true∧bt1100.1=false∧bt1102.1=true∧bt1113.1=false)∨(((bt1107.2.1.length:Int)==1)=true∧bt1088.1=false∧bt1090.1=true∧bt1092.1=false∧bt1094.1=true∧bt1096.1=false∧bt1098.1=false∧bt1100.1=true∧bt1102.1=true∧bt1113.1=false)∨(((bt1107.2.1.length:Int)==1)=false∧bt1088.1=false∧bt1090.1=false∧bt1092.1=true∧bt1094.1=true∧bt1096.1=true∧bt1098.1=false∧bt1100.1=true∧bt1102.1=false∧bt1113.1=true)∨(((bt1107.2.1.length:Int)==1)=false∧bt1088.1=false∧bt1090.1=false∧bt1092.1=true∧bt1094.1=true∧bt1096.1=false∧bt1098.1=true∧bt1100.1=false∧bt1102.1=true∧bt1113.1=true)) then((tribunallaw09_alive.f k).bind fun t1115=>(some t1115)) else(none))) else(if bt1088.2=bt1096.2∧bt1088.2=bt1107.2.2∧(bt1088.2=90∨bt1088.2=52) then((tribunallaw09_alive.f k).bind fun t1115=>(some t1115)) else(none)))))))))))
theorem tribunallaw09_BitsOrders.calls (k:Nat) (af:Int) (P0_1_:Nat→Prop) (al:Option Addr) (am:Nat) (ae:List Int) (ah:Int) (P1_1_:Nat→Prop) (ao:Option Addr) (ap:Nat) (ag:List Int) (r:Bool) (w:World) (bv:Kd.V (Kd.int .u64) 48 w w.heap.size (fun k_=>P0_1_ k_) (.slice al ae.length am) ae) (bw:Kd.V (Kd.int .u64) 48 w w.heap.size (fun k_=>P1_1_ k_) (.slice ao ag.length ap) ag) (h:tribunallaw09_BitsOrders.f k af ae ah ag=some r) :
  Calls Tryz.prog 7 #[.agg #[.int .i64 af,.slice al ae.length am],.agg #[.int .i64 ah,.slice ao ag.length ap]] w fun e w'=>e=.returned (.bool r)∧Below w.heap.size w w':=by
 have fu:=Tryz.underlying28
 have HO0_1:=Aside0.mk (show Kd.V (Kd.int .u64) 48 w w.heap.size (fun k_=>((P0_1_ k_∨P1_1_ k_)∨w.heap.size≤k_)) (.slice al ae.length am) ae from Kd.V_mono bv (fun k_ hk=>.inl (.inl hk)))
 have HO1_1:=Aside0.mk (show Kd.V (Kd.int .u64) 48 w w.heap.size (fun k_=>((P0_1_ k_∨P1_1_ k_)∨w.heap.size≤k_)) (.slice ao ag.length ap) ag from Kd.V_mono bw (fun k_ hk=>.inl (.inr hk)))
 have HB:=Aside0.mk (Below.refl w.heap.size w)
 have H:((bits_Holds.f k 68 af ae ah ag).bind fun aQ=>((bits_Holds.f k 69 af ae ah ag).bind fun aP=>((bits_Holds.f k 70 af ae ah ag).bind fun aK=>((bits_Holds.f k 71 af ae ah ag).bind fun aH=>((bits_Holds.f k 72 af ae ah ag).bind fun ay=>((bits_Holds.f k 74 af ae ah ag).bind fun aB=>((bits_Holds.f k 73 af ae ah ag).bind fun aw=>((bits_Holds.f k 75 af ae ah ag).bind fun aq=>((bits_Apply.f k 51 ([]:List Int) (([(⟨af,ae⟩:S28),(⟨ah,ag⟩:S28)]:List (S28)))).bind fun ai=>(if aQ.2=0 then((bits_Holds.f k 68 ah ag af ae).bind fun aj=>(if(ay.2=0∧ai.2.2=0∧aj.2=0)∧((((ai.2.1.length:Int)==1)=false∧aQ.1=true∧aP.1=true∧aK.1=false∧aH.1=false∧ay.1=true∧aB.1=false∧aw.1=true∧aq.1=false∧aj.1=false)∨(((ai.2.1.length:Int)==1)=false∧aQ.1=true∧aP.1=true∧aK.1=false∧aH.1=false∧ay.1=false∧aB.1=true∧aw.1=false∧aq.1=true∧aj.1=false)∨(((ai.2.1.length:Int)==1)=true∧aQ.1=false∧aP.1=true∧aK.1=false∧aH.1=true∧ay.1=false∧aB.1=false∧aw.1=true∧aq.1=true∧aj.1=false)∨(((ai.2.1.length:Int)==1)=false∧aQ.1=false∧aP.1=false∧aK.1=true∧aH.1=true∧ay.1=true∧aB.1=false∧aw.1=true∧aq.1=false∧aj.1=true)∨(((ai.2.1.length:Int)==1)=false∧aQ.1=false∧aP.1=false∧aK.1=true∧aH.1=true∧ay.1=false∧aB.1=true∧aw.1=false∧aq.1=true∧aj.1=true)) then((tribunallaw09_alive.f k).bind fun az=>(some az)) else(none))) else(if aQ.2=ay.2∧aQ.2=ai.2.2∧(aQ.2=90∨aQ.2=52) then((tribunallaw09_alive.f k).bind fun az=>(some az)) else(none))))))))))))=some r:=h
 clear h
 replace H:=Option.bind_eq_some_iff.mp H
 obtain⟨⟨au,an⟩,A30,H⟩:=H
 replace H:((bits_Holds.f k 69 af ae ah ag).bind fun aP=>((bits_Holds.f k 70 af ae ah ag).bind fun aK=>((bits_Holds.f k 71 af ae ah ag).bind fun aH=>((bits_Holds.f k 72 af ae ah ag).bind fun ay=>((bits_Holds.f k 74 af ae ah ag).bind fun aB=>((bits_Holds.f k 73 af ae ah ag).bind fun aw=>((bits_Holds.f k 75 af ae ah ag).bind fun aq=>((bits_Apply.f k 51 ([]:List Int) (([(⟨af,ae⟩:S28),(⟨ah,ag⟩:S28)]:List (S28)))).bind fun ai=>(if an=0 then((bits_Holds.f k 68 ah ag af ae).bind fun aj=>(if(ay.2=0∧ai.2.2=0∧aj.2=0)∧((((ai.2.1.length:Int)==1)=false∧au=true∧aP.1=true∧aK.1=false∧aH.1=false∧ay.1=true∧aB.1=false∧aw.1=true∧aq.1=false∧aj.1=false)∨(((ai.2.1.length:Int)==1)=false∧au=true∧aP.1=true∧aK.1=false∧aH.1=false∧ay.1=false∧aB.1=true∧aw.1=false∧aq.1=true∧aj.1=false)∨(((ai.2.1.length:Int)==1)=true∧au=false∧aP.1=true∧aK.1=false∧aH.1=true∧ay.1=false∧aB.1=false∧aw.1=true∧aq.1=true∧aj.1=false)∨(((ai.2.1.length:Int)==1)=false∧au=false∧aP.1=false∧aK.1=true∧aH.1=true∧ay.1=true∧aB.1=false∧aw.1=true∧aq.1=false∧aj.1=true)∨(((ai.2.1.length:Int)==1)=false∧au=false∧aP.1=false∧aK.1=true∧aH.1=true∧ay.1=false∧aB.1=true∧aw.1=false∧aq.1=true∧aj.1=true)) then((tribunallaw09_alive.f k).bind fun az=>(some az)) else(none))) else(if an=ay.2∧an=ai.2.2∧(an=90∨an=52) then((tribunallaw09_alive.f k).bind fun az=>(some az)) else(none)))))))))))=some r:=H
 have A3:=Aside0.mk A30
 clear A30
 replace H:=Option.bind_eq_some_iff.mp H
 obtain⟨⟨av,bx⟩,A40,H⟩:=H
 replace H:((bits_Holds.f k 70 af ae ah ag).bind fun aK=>((bits_Holds.f k 71 af ae ah ag).bind fun aH=>((bits_Holds.f k 72 af ae ah ag).bind fun ay=>((bits_Holds.f k 74 af ae ah ag).bind fun aB=>((bits_Holds.f k 73 af ae ah ag).bind fun aw=>((bits_Holds.f k 75 af ae ah ag).bind fun aq=>((bits_Apply.f k 51 ([]:List Int) (([(⟨af,ae⟩:S28),(⟨ah,ag⟩:S28)]:List (S28)))).bind fun ai=>(if an=0 then((bits_Holds.f k 68 ah ag af ae).bind fun aj=>(if(ay.2=0∧ai.2.2=0∧aj.2=0)∧((((ai.2.1.length:Int)==1)=false∧au=true∧av=true∧aK.1=false∧aH.1=false∧ay.1=true∧aB.1=false∧aw.1=true∧aq.1=false∧aj.1=false)∨(((ai.2.1.length:Int)==1)=false∧au=true∧av=true∧aK.1=false∧aH.1=false∧ay.1=false∧aB.1=true∧aw.1=false∧aq.1=true∧aj.1=false)∨(((ai.2.1.length:Int)==1)=true∧au=false∧av=true∧aK.1=false∧aH.1=true∧ay.1=false∧aB.1=false∧aw.1=true∧aq.1=true∧aj.1=false)∨(((ai.2.1.length:Int)==1)=false∧au=false∧av=false∧aK.1=true∧aH.1=true∧ay.1=true∧aB.1=false∧aw.1=true∧aq.1=false∧aj.1=true)∨(((ai.2.1.length:Int)==1)=false∧au=false∧av=false∧aK.1=true∧aH.1=true∧ay.1=false∧aB.1=true∧aw.1=false∧aq.1=true∧aj.1=true)) then((tribunallaw09_alive.f k).bind fun az=>(some az)) else(none))) else(if an=ay.2∧an=ai.2.2∧(an=90∨an=52) then((tribunallaw09_alive.f k).bind fun az=>(some az)) else(none))))))))))=some r:=H
 have A4:=Aside0.mk A40
 clear A40
 replace H:=Option.bind_eq_some_iff.mp H
 obtain⟨⟨aA,bz⟩,A50,H⟩:=H
 replace H:((bits_Holds.f k 71 af ae ah ag).bind fun aH=>((bits_Holds.f k 72 af ae ah ag).bind fun ay=>((bits_Holds.f k 74 af ae ah ag).bind fun aB=>((bits_Holds.f k 73 af ae ah ag).bind fun aw=>((bits_Holds.f k 75 af ae ah ag).bind fun aq=>((bits_Apply.f k 51 ([]:List Int) (([(⟨af,ae⟩:S28),(⟨ah,ag⟩:S28)]:List (S28)))).bind fun ai=>(if an=0 then((bits_Holds.f k 68 ah ag af ae).bind fun aj=>(if(ay.2=0∧ai.2.2=0∧aj.2=0)∧((((ai.2.1.length:Int)==1)=false∧au=true∧av=true∧aA=false∧aH.1=false∧ay.1=true∧aB.1=false∧aw.1=true∧aq.1=false∧aj.1=false)∨(((ai.2.1.length:Int)==1)=false∧au=true∧av=true∧aA=false∧aH.1=false∧ay.1=false∧aB.1=true∧aw.1=false∧aq.1=true∧aj.1=false)∨(((ai.2.1.length:Int)==1)=true∧au=false∧av=true∧aA=false∧aH.1=true∧ay.1=false∧aB.1=false∧aw.1=true∧aq.1=true∧aj.1=false)∨(((ai.2.1.length:Int)==1)=false∧au=false∧av=false∧aA=true∧aH.1=true∧ay.1=true∧aB.1=false∧aw.1=true∧aq.1=false∧aj.1=true)∨(((ai.2.1.length:Int)==1)=false∧au=false∧av=false∧aA=true∧aH.1=true∧ay.1=false∧aB.1=true∧aw.1=false∧aq.1=true∧aj.1=true)) then((tribunallaw09_alive.f k).bind fun az=>(some az)) else(none))) else(if an=ay.2∧an=ai.2.2∧(an=90∨an=52) then((tribunallaw09_alive.f k).bind fun az=>(some az)) else(none)))))))))=some r:=H
 have A5:=Aside0.mk A50
 clear A50
 replace H:=Option.bind_eq_some_iff.mp H
 obtain⟨⟨aC,bA⟩,A60,H⟩:=H
 replace H:((bits_Holds.f k 72 af ae ah ag).bind fun ay=>((bits_Holds.f k 74 af ae ah ag).bind fun aB=>((bits_Holds.f k 73 af ae ah ag).bind fun aw=>((bits_Holds.f k 75 af ae ah ag).bind fun aq=>((bits_Apply.f k 51 ([]:List Int) (([(⟨af,ae⟩:S28),(⟨ah,ag⟩:S28)]:List (S28)))).bind fun ai=>(if an=0 then((bits_Holds.f k 68 ah ag af ae).bind fun aj=>(if(ay.2=0∧ai.2.2=0∧aj.2=0)∧((((ai.2.1.length:Int)==1)=false∧au=true∧av=true∧aA=false∧aC=false∧ay.1=true∧aB.1=false∧aw.1=true∧aq.1=false∧aj.1=false)∨(((ai.2.1.length:Int)==1)=false∧au=true∧av=true∧aA=false∧aC=false∧ay.1=false∧aB.1=true∧aw.1=false∧aq.1=true∧aj.1=false)∨(((ai.2.1.length:Int)==1)=true∧au=false∧av=true∧aA=false∧aC=true∧ay.1=false∧aB.1=false∧aw.1=true∧aq.1=true∧aj.1=false)∨(((ai.2.1.length:Int)==1)=false∧au=false∧av=false∧aA=true∧aC=true∧ay.1=true∧aB.1=false∧aw.1=true∧aq.1=false∧aj.1=true)∨(((ai.2.1.length:Int)==1)=false∧au=false∧av=false∧aA=true∧aC=true∧ay.1=false∧aB.1=true∧aw.1=false∧aq.1=true∧aj.1=true)) then((tribunallaw09_alive.f k).bind fun az=>(some az)) else(none))) else(if an=ay.2∧an=ai.2.2∧(an=90∨an=52) then((tribunallaw09_alive.f k).bind fun az=>(some az)) else(none))))))))=some r:=H
 have A6:=Aside0.mk A60
 clear A60
 replace H:=Option.bind_eq_some_iff.mp H
 obtain⟨⟨aD,aM⟩,A70,H⟩:=H
 replace H:((bits_Holds.f k 74 af ae ah ag).bind fun aB=>((bits_Holds.f k 73 af ae ah ag).bind fun aw=>((bits_Holds.f k 75 af ae ah ag).bind fun aq=>((bits_Apply.f k 51 ([]:List Int) (([(⟨af,ae⟩:S28),(⟨ah,ag⟩:S28)]:List (S28)))).bind fun ai=>(if an=0 then((bits_Holds.f k 68 ah ag af ae).bind fun aj=>(if(aM=0∧ai.2.2=0∧aj.2=0)∧((((ai.2.1.length:Int)==1)=false∧au=true∧av=true∧aA=false∧aC=false∧aD=true∧aB.1=false∧aw.1=true∧aq.1=false∧aj.1=false)∨(((ai.2.1.length:Int)==1)=false∧au=true∧av=true∧aA=false∧aC=false∧aD=false∧aB.1=true∧aw.1=false∧aq.1=true∧aj.1=false)∨(((ai.2.1.length:Int)==1)=true∧au=false∧av=true∧aA=false∧aC=true∧aD=false∧aB.1=false∧aw.1=true∧aq.1=true∧aj.1=false)∨(((ai.2.1.length:Int)==1)=false∧au=false∧av=false∧aA=true∧aC=true∧aD=true∧aB.1=false∧aw.1=true∧aq.1=false∧aj.1=true)∨(((ai.2.1.length:Int)==1)=false∧au=false∧av=false∧aA=true∧aC=true∧aD=false∧aB.1=true∧aw.1=false∧aq.1=true∧aj.1=true)) then((tribunallaw09_alive.f k).bind fun az=>(some az)) else(none))) else(if an=aM∧an=ai.2.2∧(an=90∨an=52) then((tribunallaw09_alive.f k).bind fun az=>(some az)) else(none)))))))=some r:=H
 have A7:=Aside0.mk A70
 clear A70
 replace H:=Option.bind_eq_some_iff.mp H
 obtain⟨⟨aG,bB⟩,A80,H⟩:=H
 replace H:((bits_Holds.f k 73 af ae ah ag).bind fun aw=>((bits_Holds.f k 75 af ae ah ag).bind fun aq=>((bits_Apply.f k 51 ([]:List Int) (([(⟨af,ae⟩:S28),(⟨ah,ag⟩:S28)]:List (S28)))).bind fun ai=>(if an=0 then((bits_Holds.f k 68 ah ag af ae).bind fun aj=>(if(aM=0∧ai.2.2=0∧aj.2=0)∧((((ai.2.1.length:Int)==1)=false∧au=true∧av=true∧aA=false∧aC=false∧aD=true∧aG=false∧aw.1=true∧aq.1=false∧aj.1=false)∨(((ai.2.1.length:Int)==1)=false∧au=true∧av=true∧aA=false∧aC=false∧aD=false∧aG=true∧aw.1=false∧aq.1=true∧aj.1=false)∨(((ai.2.1.length:Int)==1)=true∧au=false∧av=true∧aA=false∧aC=true∧aD=false∧aG=false∧aw.1=true∧aq.1=true∧aj.1=false)∨(((ai.2.1.length:Int)==1)=false∧au=false∧av=false∧aA=true∧aC=true∧aD=true∧aG=false∧aw.1=true∧aq.1=false∧aj.1=true)∨(((ai.2.1.length:Int)==1)=false∧au=false∧av=false∧aA=true∧aC=true∧aD=false∧aG=true∧aw.1=false∧aq.1=true∧aj.1=true)) then((tribunallaw09_alive.f k).bind fun az=>(some az)) else(none))) else(if an=aM∧an=ai.2.2∧(an=90∨an=52) then((tribunallaw09_alive.f k).bind fun az=>(some az)) else(none))))))=some r:=H
 have A8:=Aside0.mk A80
 clear A80
 replace H:=Option.bind_eq_some_iff.mp H
 obtain⟨⟨aI,bC⟩,A90,H⟩:=H
 replace H:((bits_Holds.f k 75 af ae ah ag).bind fun aq=>((bits_Apply.f k 51 ([]:List Int) (([(⟨af,ae⟩:S28),(⟨ah,ag⟩:S28)]:List (S28)))).bind fun ai=>(if an=0 then((bits_Holds.f k 68 ah ag af ae).bind fun aj=>(if(aM=0∧ai.2.2=0∧aj.2=0)∧((((ai.2.1.length:Int)==1)=false∧au=true∧av=true∧aA=false∧aC=false∧aD=true∧aG=false∧aI=true∧aq.1=false∧aj.1=false)∨(((ai.2.1.length:Int)==1)=false∧au=true∧av=true∧aA=false∧aC=false∧aD=false∧aG=true∧aI=false∧aq.1=true∧aj.1=false)∨(((ai.2.1.length:Int)==1)=true∧au=false∧av=true∧aA=false∧aC=true∧aD=false∧aG=false∧aI=true∧aq.1=true∧aj.1=false)∨(((ai.2.1.length:Int)==1)=false∧au=false∧av=false∧aA=true∧aC=true∧aD=true∧aG=false∧aI=true∧aq.1=false∧aj.1=true)∨(((ai.2.1.length:Int)==1)=false∧au=false∧av=false∧aA=true∧aC=true∧aD=false∧aG=true∧aI=false∧aq.1=true∧aj.1=true)) then((tribunallaw09_alive.f k).bind fun az=>(some az)) else(none))) else(if an=aM∧an=ai.2.2∧(an=90∨an=52) then((tribunallaw09_alive.f k).bind fun az=>(some az)) else(none)))))=some r:=H
 have A9:=Aside0.mk A90
 clear A90
 replace H:=Option.bind_eq_some_iff.mp H
 obtain⟨⟨aJ,bD⟩,bn,H⟩:=H
 replace H:((bits_Apply.f k 51 ([]:List Int) (([(⟨af,ae⟩:S28),(⟨ah,ag⟩:S28)]:List (S28)))).bind fun ai=>(if an=0 then((bits_Holds.f k 68 ah ag af ae).bind fun aj=>(if(aM=0∧ai.2.2=0∧aj.2=0)∧((((ai.2.1.length:Int)==1)=false∧au=true∧av=true∧aA=false∧aC=false∧aD=true∧aG=false∧aI=true∧aJ=false∧aj.1=false)∨(((ai.2.1.length:Int)==1)=false∧au=true∧av=true∧aA=false∧aC=false∧aD=false∧aG=true∧aI=false∧aJ=true∧aj.1=false)∨(((ai.2.1.length:Int)==1)=true∧au=false∧av=true∧aA=false∧aC=true∧aD=false∧aG=false∧aI=true∧aJ=true∧aj.1=false)∨(((ai.2.1.length:Int)==1)=false∧au=false∧av=false∧aA=true∧aC=true∧aD=true∧aG=false∧aI=true∧aJ=false∧aj.1=true)∨(((ai.2.1.length:Int)==1)=false∧au=false∧av=false∧aA=true∧aC=true∧aD=false∧aG=true∧aI=false∧aJ=true∧aj.1=true)) then((tribunallaw09_alive.f k).bind fun az=>(some az)) else(none))) else(if an=aM∧an=ai.2.2∧(an=90∨an=52) then((tribunallaw09_alive.f k).bind fun az=>(some az)) else(none))))=some r:=H
 have A10:=Aside0.mk bn
 clear bn
 obtain⟨aT,bc⟩:∃y_:List (S28),y_=(([(⟨af,ae⟩:S28),(⟨ah,ag⟩:S28)]:List (S28))):=⟨_,rfl⟩
 replace H:((bits_Apply.f k 51 ([]:List Int) aT).bind fun ai=>(if an=0 then((bits_Holds.f k 68 ah ag af ae).bind fun aj=>(if(aM=0∧ai.2.2=0∧aj.2=0)∧((((ai.2.1.length:Int)==1)=false∧au=true∧av=true∧aA=false∧aC=false∧aD=true∧aG=false∧aI=true∧aJ=false∧aj.1=false)∨(((ai.2.1.length:Int)==1)=false∧au=true∧av=true∧aA=false∧aC=false∧aD=false∧aG=true∧aI=false∧aJ=true∧aj.1=false)∨(((ai.2.1.length:Int)==1)=true∧au=false∧av=true∧aA=false∧aC=true∧aD=false∧aG=false∧aI=true∧aJ=true∧aj.1=false)∨(((ai.2.1.length:Int)==1)=false∧au=false∧av=false∧aA=true∧aC=true∧aD=true∧aG=false∧aI=true∧aJ=false∧aj.1=true)∨(((ai.2.1.length:Int)==1)=false∧au=false∧av=false∧aA=true∧aC=true∧aD=false∧aG=true∧aI=false∧aJ=true∧aj.1=true)) then((tribunallaw09_alive.f k).bind fun az=>(some az)) else(none))) else(if an=aM∧an=ai.2.2∧(an=90∨an=52) then((tribunallaw09_alive.f k).bind fun az=>(some az)) else(none))))=some r:=by first|(rw[bc];with_reducible exact H)|(have H2_:=(Option.bind_some _ _).symm.trans H;rw[bc];with_reducible exact H2_)|(have H2_:=(Option.bind_some _ _).symm.trans H;with_reducible exact H2_)|with_reducible exact H|(rw[bc];exact H)|exact H
 have be:=Aside0.mk bc
 clear bc
 replace H:=Option.bind_eq_some_iff.mp H
 obtain⟨⟨aL,aE,aV⟩,bo,H⟩:=H
 replace H:(if an=0 then((bits_Holds.f k 68 ah ag af ae).bind fun aj=>(if(aM=0∧aV=0∧aj.2=0)∧((((aE.length:Int)==1)=false∧au=true∧av=true∧aA=false∧aC=false∧aD=true∧aG=false∧aI=true∧aJ=false∧aj.1=false)∨(((aE.length:Int)==1)=false∧au=true∧av=true∧aA=false∧aC=false∧aD=false∧aG=true∧aI=false∧aJ=true∧aj.1=false)∨(((aE.length:Int)==1)=true∧au=false∧av=true∧aA=false∧aC=true∧aD=false∧aG=false∧aI=true∧aJ=true∧aj.1=false)∨(((aE.length:Int)==1)=false∧au=false∧av=false∧aA=true∧aC=true∧aD=true∧aG=false∧aI=true∧aJ=false∧aj.1=true)∨(((aE.length:Int)==1)=false∧au=false∧av=false∧aA=true∧aC=true∧aD=false∧aG=true∧aI=false∧aJ=true∧aj.1=true)) then((tribunallaw09_alive.f k).bind fun az=>(some az)) else(none))) else(if an=aM∧an=aV∧(an=90∨an=52) then((tribunallaw09_alive.f k).bind fun az=>(some az)) else(none)))=some r:=H
 have A11:=Aside0.mk bo
 clear bo
 by_cases c12:an=0
 ·rw[if_pos c12]at H
  have bE:(an==0)=true:=beq_iff_eq.mpr c12
  have bF:(an != 0)=false:=bne_eq_false_iff_eq.mpr c12
  clear c12
  replace H:=Option.bind_eq_some_iff.mp H
  obtain⟨⟨bf,bl⟩,bp,H⟩:=H
  have A13:=Aside0.mk bp
  clear bp
  dsimp only at H
  by_cases c14:(aM=0∧aV=0∧bl=0)∧((((aE.length:Int)==1)=false∧au=true∧av=true∧aA=false∧aC=false∧aD=true∧aG=false∧aI=true∧aJ=false∧bf=false)∨(((aE.length:Int)==1)=false∧au=true∧av=true∧aA=false∧aC=false∧aD=false∧aG=true∧aI=false∧aJ=true∧bf=false)∨(((aE.length:Int)==1)=true∧au=false∧av=true∧aA=false∧aC=true∧aD=false∧aG=false∧aI=true∧aJ=true∧bf=false)∨(((aE.length:Int)==1)=false∧au=false∧av=false∧aA=true∧aC=true∧aD=true∧aG=false∧aI=true∧aJ=false∧bf=true)∨(((aE.length:Int)==1)=false∧au=false∧av=false∧aA=true∧aC=true∧aD=false∧aG=true∧aI=false∧aJ=true∧bf=true))
  ·rw[if_pos c14]at H
   obtain⟨⟨c15,c16,c17⟩,c14⟩:=c14
   have fg:(aM==0)=true:=beq_iff_eq.mpr c15
   have fh:(aV==0)=true:=beq_iff_eq.mpr c16
   have fi:(bl==0)=true:=beq_iff_eq.mpr c17
   clear c15 c16 c17
   replace H:=Option.bind_eq_some_iff.mp H
   obtain⟨az,bk,H⟩:=H
   have A27:=Aside0.mk bk
   clear bk
   obtain rfl:=Option.some.inj H
   rcases c14 with⟨c18,rfl,rfl,rfl,rfl,rfl,rfl,rfl,rfl,rfl⟩|⟨c18,rfl,rfl,rfl,rfl,rfl,rfl,rfl,rfl,rfl⟩|⟨c18,rfl,rfl,rfl,rfl,rfl,rfl,rfl,rfl,rfl⟩|⟨c18,rfl,rfl,rfl,rfl,rfl,rfl,rfl,rfl,rfl⟩|⟨c18,rfl,rfl,rfl,rfl,rfl,rfl,rfl,rfl,rfl⟩
   all_goals
    go_enter Tryz.func7,Tryz.ntmps7
    go_wp2_with (first|((with_reducible refine gate_dst (N:=2) rfl ?_);refine box_event ?hg (N:=2) ?hd (cs:=#[.int .i64 af,.slice al ae.length am]) (t:=28) ?hr ?_;(case hd=>rfl);(case hg=>rfl);(case hr=>first|(go_simp;done)|(go_simp;rfl));intro ac hg w28 hbox hb;have n0_:=Aside0.mk (Kd.V_below (Kd.V_elderB U0 ac (Nat.le_of_eq hg.symm)) hb);have n1_:=Aside0.mk (Kd.V_below (Kd.V_elderB V0 ac (Nat.le_of_eq hg.symm)) hb);have n2_:=Aside0.mk (below_step X1 hb);have n3_:=Aside0.mk (hbox);have n4_:=Aside0.mk ((by rw[hg];exact(below_size X1):w.heap.size≤ac));have n5_:=Aside0.mk ((by rw[hg];exact(below_size X1):w.heap.size≤ac));clear HO0_1;clear HO1_1;clear HB;have HO0_1:=n0_;have HO1_1:=n1_;have HB:=n2_;have aa:=n3_;have bq:=n4_;have ar:=n5_;clear n0_ n1_ n2_ n3_ n4_ n5_;clear hb hbox hg)|((with_reducible refine gate_dst (N:=3) rfl ?_);refine box_event ?hg (N:=3) ?hd (cs:=#[.int .i64 ah,.slice ao ag.length ap]) (t:=28) ?hr ?_;(case hd=>rfl);(case hg=>rfl);(case hr=>first|(go_simp;done)|(go_simp;rfl));intro ad hg w29 hbox hb;have n0_:=Aside0.mk (Kd.V_below (Kd.V_elderB U0 ad (Nat.le_of_eq hg.symm)) hb);have n1_:=Aside0.mk (Kd.V_below (Kd.V_elderB V0 ad (Nat.le_of_eq hg.symm)) hb);have n2_:=Aside0.mk (blk_below (g:=ac) (o:=.cells #[.int .i64 af,.slice al ae.length am] 28 (0,0)) (by(with_reducible repeat (first|refine blk_drewN ?_ _|refine blk_drew ?_|refine blk_alloc ?_ _));exact aa.out) hb);have n3_:=Aside0.mk (below_step (by repeat (first|(with_reducible first|exact HB.out|apply below_alloc|apply pw_below_drewN|apply below_drew1|refine below_set ?_ ar.out)|exact HB.out)) hb);have n4_:=Aside0.mk (hbox);have n5_:=Aside0.mk ((by rw[hg];exact(below_size (by repeat (first|(with_reducible first|exact HB.out|apply below_alloc|apply pw_below_drewN|apply below_drew1|refine below_set ?_ ar.out)|exact HB.out))):w.heap.size≤ad));have n6_:=Aside0.mk ((by rw[hg];exact(below_size (by repeat (first|(with_reducible first|exact HB.out|apply below_alloc|apply pw_below_drewN|apply below_drew1|refine below_set ?_ ar.out)|exact HB.out))):w.heap.size≤ad));have n7_:=Aside0.mk ((by rw[hg];exact Nat.ne_of_lt (blk_lt (g:=ac) (o:=.cells #[.int .i64 af,.slice al ae.length am] 28 (0,0)) (by(with_reducible repeat (first|refine blk_drewN ?_ _|refine blk_drew ?_|refine blk_alloc ?_ _));exact aa.out)):ac≠ad));have n8_:=Aside0.mk ((by rw[hg];exact Nat.ne_of_gt (blk_lt (g:=ac) (o:=.cells #[.int .i64 af,.slice al ae.length am] 28 (0,0)) (by(with_reducible repeat (first|refine blk_drewN ?_ _|refine blk_drew ?_|refine blk_alloc ?_ _));exact aa.out)):ad≠ac));clear HO0_1;clear HO1_1;clear aa;clear HB;have HO0_1:=n0_;have HO1_1:=n1_;have aa:=n2_;have HB:=n3_;have ab:=n4_;have br:=n5_;have ax:=n6_;have aW:=n7_;have aX:=n8_;clear n0_ n1_ n2_ n3_ n4_ n5_ n6_ n7_ n8_;clear hb hbox hg;have fj:=aW.out;have fk:=aX.out;have cj:w29.cell? ⟨ac,0,none⟩=some (.int .i64 af):=(blk_cell aa.out 0).trans rfl;have ck:w29.cell? ⟨ac,1,none⟩=some (.slice al ae.length am):=(blk_cell aa.out 1).trans rfl;have cl:=blk_frozen aa.out 0;have cm:=blk_frozen aa.out 1;have cn:w29.cell? ⟨ad,0,none⟩=some (.int .i64 ah):=(blk_cell ab.out 0).trans rfl;have co:w29.cell? ⟨ad,1,none⟩=some (.slice ao ag.length ap):=(blk_cell ab.out 1).trans rfl;have cp:=blk_frozen ab.out 0;have cq:=blk_frozen ab.out 1)|((with_reducible refine gate_callee (f:=15) rfl ?_);refine goesL_ (some 29) rfl rfl Tryz.func15 Z0 rfl #[.int .i64 68,.agg #[.int .i64 af,.slice al ae.length am],.agg #[.int .i64 ah,.slice ao ag.length ap]] rfl J0 ?_;(with_reducible refine(bits_Holds.calls k 68 af (fun k_=>((((P0_1_ k_∨P1_1_ k_)∨w.heap.size≤k_)∧k_≠ac)∧k_≠ad)) _ _ ae ah (fun k_=>((((P0_1_ k_∨P1_1_ k_)∨w.heap.size≤k_)∧k_≠ac)∧k_≠ad)) _ _ ag _ _ _ ?side1 ?side2 A3.out).mono ?_);(case side1=>exact HO0_1.out);(case side2=>exact HO1_1.out);rintro e w33 ⟨rfl,hb⟩;refine⟨_,rfl,?_⟩;have n0_:=Aside0.mk (Kd.V_below U0 hb);have n1_:=Aside0.mk (Kd.V_below V0 hb);have n2_:=Aside0.mk (blk_below (g:=ac) (o:=.cells #[.int .i64 af,.slice al ae.length am] 28 (0,0)) (by(with_reducible repeat (first|refine blk_drewN ?_ _|refine blk_drew ?_|refine blk_alloc ?_ _));exact aa.out) hb);have n3_:=Aside0.mk (blk_below (g:=ad) (o:=.cells #[.int .i64 ah,.slice ao ag.length ap] 28 (0,0)) (by(with_reducible repeat (first|refine blk_drewN ?_ _|refine blk_drew ?_|refine blk_alloc ?_ _));exact ab.out) hb);have n4_:=Aside0.mk (below_step (by repeat (first|(with_reducible first|exact HB.out|apply below_alloc|apply pw_below_drewN|apply below_drew1|refine below_set ?_ ar.out|refine below_set ?_ ax.out)|exact HB.out)) hb);clear HO0_1;clear HO1_1;clear aa;clear ab;clear HB;have HO0_1:=n0_;have HO1_1:=n1_;have aa:=n2_;have ab:=n3_;have HB:=n4_;clear n0_ n1_ n2_ n3_ n4_;(try clear hb);(try clear hb2);(try clear hk);(try clear hi);have cr:w33.cell? ⟨ac,0,none⟩=some (.int .i64 af):=(blk_cell aa.out 0).trans rfl;have ct:w33.cell? ⟨ac,1,none⟩=some (.slice al ae.length am):=(blk_cell aa.out 1).trans rfl;have cu:=blk_frozen aa.out 0;have cv:=blk_frozen aa.out 1;have cw:w33.cell? ⟨ad,0,none⟩=some (.int .i64 ah):=(blk_cell ab.out 0).trans rfl;have cx:w33.cell? ⟨ad,1,none⟩=some (.slice ao ag.length ap):=(blk_cell ab.out 1).trans rfl;have cy:=blk_frozen ab.out 0;have cz:=blk_frozen ab.out 1)|((with_reducible refine gate_callee (f:=15) rfl ?_);refine goesL_ (some 35) rfl rfl Tryz.func15 Z0 rfl #[.int .i64 69,.agg #[.int .i64 af,.slice al ae.length am],.agg #[.int .i64 ah,.slice ao ag.length ap]] rfl J0 ?_;(with_reducible refine(bits_Holds.calls k 69 af (fun k_=>((((P0_1_ k_∨P1_1_ k_)∨w.heap.size≤k_)∧k_≠ac)∧k_≠ad)) _ _ ae ah (fun k_=>((((P0_1_ k_∨P1_1_ k_)∨w.heap.size≤k_)∧k_≠ac)∧k_≠ad)) _ _ ag _ _ _ ?side1 ?side2 A4.out).mono ?_);(case side1=>exact HO0_1.out);(case side2=>exact HO1_1.out);rintro e w36 ⟨rfl,hb⟩;refine⟨_,rfl,?_⟩;have n0_:=Aside0.mk (Kd.V_below U0 hb);have n1_:=Aside0.mk (Kd.V_below V0 hb);have n2_:=Aside0.mk (blk_below (g:=ac) (o:=.cells #[.int .i64 af,.slice al ae.length am] 28 (0,0)) (by(with_reducible repeat (first|refine blk_drewN ?_ _|refine blk_drew ?_|refine blk_alloc ?_ _));exact aa.out) hb);have n3_:=Aside0.mk (blk_below (g:=ad) (o:=.cells #[.int .i64 ah,.slice ao ag.length ap] 28 (0,0)) (by(with_reducible repeat (first|refine blk_drewN ?_ _|refine blk_drew ?_|refine blk_alloc ?_ _));exact ab.out) hb);have n4_:=Aside0.mk (below_step (by repeat (first|(with_reducible first|exact HB.out|apply below_alloc|apply pw_below_drewN|apply below_drew1|refine below_set ?_ ar.out|refine below_set ?_ ax.out)|exact HB.out)) hb);clear HO0_1;clear HO1_1;clear aa;clear ab;clear HB;have HO0_1:=n0_;have HO1_1:=n1_;have aa:=n2_;have ab:=n3_;have HB:=n4_;clear n0_ n1_ n2_ n3_ n4_;(try clear hb);(try clear hb2);(try clear hk);(try clear hi);have cA:w36.cell? ⟨ac,0,none⟩=some (.int .i64 af):=(blk_cell aa.out 0).trans rfl;have cB:w36.cell? ⟨ac,1,none⟩=some (.slice al ae.length am):=(blk_cell aa.out 1).trans rfl;have cC:=blk_frozen aa.out 0;have cD:=blk_frozen aa.out 1;have cE:w36.cell? ⟨ad,0,none⟩=some (.int .i64 ah):=(blk_cell ab.out 0).trans rfl;have cF:w36.cell? ⟨ad,1,none⟩=some (.slice ao ag.length ap):=(blk_cell ab.out 1).trans rfl;have cG:=blk_frozen ab.out 0;have cH:=blk_frozen ab.out 1)|((with_reducible refine gate_callee (f:=15) rfl ?_);refine goesL_ (some 41) rfl rfl Tryz.func15 Z0 rfl #[.int .i64 70,.agg #[.int .i64 af,.slice al ae.length am],.agg #[.int .i64 ah,.slice ao ag.length ap]] rfl J0 ?_;(with_reducible refine(bits_Holds.calls k 70 af (fun k_=>((((P0_1_ k_∨P1_1_ k_)∨w.heap.size≤k_)∧k_≠ac)∧k_≠ad)) _ _ ae ah (fun k_=>((((P0_1_ k_∨P1_1_ k_)∨w.heap.size≤k_)∧k_≠ac)∧k_≠ad)) _ _ ag _ _ _ ?side1 ?side2 A5.out).mono ?_);(case side1=>exact HO0_1.out);(case side2=>exact HO1_1.out);rintro e w39 ⟨rfl,hb⟩;refine⟨_,rfl,?_⟩;have n0_:=Aside0.mk (Kd.V_below U0 hb);have n1_:=Aside0.mk (Kd.V_below V0 hb);have n2_:=Aside0.mk (blk_below (g:=ac) (o:=.cells #[.int .i64 af,.slice al ae.length am] 28 (0,0)) (by(with_reducible repeat (first|refine blk_drewN ?_ _|refine blk_drew ?_|refine blk_alloc ?_ _));exact aa.out) hb);have n3_:=Aside0.mk (blk_below (g:=ad) (o:=.cells #[.int .i64 ah,.slice ao ag.length ap] 28 (0,0)) (by(with_reducible repeat (first|refine blk_drewN ?_ _|refine blk_drew ?_|refine blk_alloc ?_ _));exact ab.out) hb);have n4_:=Aside0.mk (below_step (by repeat (first|(with_reducible first|exact HB.out|apply below_alloc|apply pw_below_drewN|apply below_drew1|refine below_set ?_ ar.out|refine below_set ?_ ax.out)|exact HB.out)) hb);clear HO0_1;clear HO1_1;clear aa;clear ab;clear HB;have HO0_1:=n0_;have HO1_1:=n1_;have aa:=n2_;have ab:=n3_;have HB:=n4_;clear n0_ n1_ n2_ n3_ n4_;(try clear hb);(try clear hb2);(try clear hk);(try clear hi);have cI:w39.cell? ⟨ac,0,none⟩=some (.int .i64 af):=(blk_cell aa.out 0).trans rfl;have cJ:w39.cell? ⟨ac,1,none⟩=some (.slice al ae.length am):=(blk_cell aa.out 1).trans rfl;have cK:=blk_frozen aa.out 0;have cL:=blk_frozen aa.out 1;have cM:w39.cell? ⟨ad,0,none⟩=some (.int .i64 ah):=(blk_cell ab.out 0).trans rfl;have cN:w39.cell? ⟨ad,1,none⟩=some (.slice ao ag.length ap):=(blk_cell ab.out 1).trans rfl;have cO:=blk_frozen ab.out 0;have cP:=blk_frozen ab.out 1)|((with_reducible refine gate_callee (f:=15) rfl ?_);refine goesL_ (some 47) rfl rfl Tryz.func15 Z0 rfl #[.int .i64 71,.agg #[.int .i64 af,.slice al ae.length am],.agg #[.int .i64 ah,.slice ao ag.length ap]] rfl J0 ?_;(with_reducible refine(bits_Holds.calls k 71 af (fun k_=>((((P0_1_ k_∨P1_1_ k_)∨w.heap.size≤k_)∧k_≠ac)∧k_≠ad)) _ _ ae ah (fun k_=>((((P0_1_ k_∨P1_1_ k_)∨w.heap.size≤k_)∧k_≠ac)∧k_≠ad)) _ _ ag _ _ _ ?side1 ?side2 A6.out).mono ?_);(case side1=>exact HO0_1.out);(case side2=>exact HO1_1.out);rintro e w42 ⟨rfl,hb⟩;refine⟨_,rfl,?_⟩;have n0_:=Aside0.mk (Kd.V_below U0 hb);have n1_:=Aside0.mk (Kd.V_below V0 hb);have n2_:=Aside0.mk (blk_below (g:=ac) (o:=.cells #[.int .i64 af,.slice al ae.length am] 28 (0,0)) (by(with_reducible repeat (first|refine blk_drewN ?_ _|refine blk_drew ?_|refine blk_alloc ?_ _));exact aa.out) hb);have n3_:=Aside0.mk (blk_below (g:=ad) (o:=.cells #[.int .i64 ah,.slice ao ag.length ap] 28 (0,0)) (by(with_reducible repeat (first|refine blk_drewN ?_ _|refine blk_drew ?_|refine blk_alloc ?_ _));exact ab.out) hb);have n4_:=Aside0.mk (below_step (by repeat (first|(with_reducible first|exact HB.out|apply below_alloc|apply pw_below_drewN|apply below_drew1|refine below_set ?_ ar.out|refine below_set ?_ ax.out)|exact HB.out)) hb);clear HO0_1;clear HO1_1;clear aa;clear ab;clear HB;have HO0_1:=n0_;have HO1_1:=n1_;have aa:=n2_;have ab:=n3_;have HB:=n4_;clear n0_ n1_ n2_ n3_ n4_;(try clear hb);(try clear hb2);(try clear hk);(try clear hi);have cQ:w42.cell? ⟨ac,0,none⟩=some (.int .i64 af):=(blk_cell aa.out 0).trans rfl;have cR:w42.cell? ⟨ac,1,none⟩=some (.slice al ae.length am):=(blk_cell aa.out 1).trans rfl;have cS:=blk_frozen aa.out 0;have cT:=blk_frozen aa.out 1;have cU:w42.cell? ⟨ad,0,none⟩=some (.int .i64 ah):=(blk_cell ab.out 0).trans rfl;have cV:w42.cell? ⟨ad,1,none⟩=some (.slice ao ag.length ap):=(blk_cell ab.out 1).trans rfl;have cW:=blk_frozen ab.out 0;have cX:=blk_frozen ab.out 1)|((with_reducible refine gate_callee (f:=15) rfl ?_);refine goesL_ (some 53) rfl rfl Tryz.func15 Z0 rfl #[.int .i64 72,.agg #[.int .i64 af,.slice al ae.length am],.agg #[.int .i64 ah,.slice ao ag.length ap]] rfl J0 ?_;(with_reducible refine(bits_Holds.calls k 72 af (fun k_=>((((P0_1_ k_∨P1_1_ k_)∨w.heap.size≤k_)∧k_≠ac)∧k_≠ad)) _ _ ae ah (fun k_=>((((P0_1_ k_∨P1_1_ k_)∨w.heap.size≤k_)∧k_≠ac)∧k_≠ad)) _ _ ag _ _ _ ?side1 ?side2 A7.out).mono ?_);(case side1=>exact HO0_1.out);(case side2=>exact HO1_1.out);rintro e w45 ⟨rfl,hb⟩;refine⟨_,rfl,?_⟩;have n0_:=Aside0.mk (Kd.V_below U0 hb);have n1_:=Aside0.mk (Kd.V_below V0 hb);have n2_:=Aside0.mk (blk_below (g:=ac) (o:=.cells #[.int .i64 af,.slice al ae.length am] 28 (0,0)) (by(with_reducible repeat (first|refine blk_drewN ?_ _|refine blk_drew ?_|refine blk_alloc ?_ _));exact aa.out) hb);have n3_:=Aside0.mk (blk_below (g:=ad) (o:=.cells #[.int .i64 ah,.slice ao ag.length ap] 28 (0,0)) (by(with_reducible repeat (first|refine blk_drewN ?_ _|refine blk_drew ?_|refine blk_alloc ?_ _));exact ab.out) hb);have n4_:=Aside0.mk (below_step (by repeat (first|(with_reducible first|exact HB.out|apply below_alloc|apply pw_below_drewN|apply below_drew1|refine below_set ?_ ar.out|refine below_set ?_ ax.out)|exact HB.out)) hb);clear HO0_1;clear HO1_1;clear aa;clear ab;clear HB;have HO0_1:=n0_;have HO1_1:=n1_;have aa:=n2_;have ab:=n3_;have HB:=n4_;clear n0_ n1_ n2_ n3_ n4_;(try clear hb);(try clear hb2);(try clear hk);(try clear hi);have cY:w45.cell? ⟨ac,0,none⟩=some (.int .i64 af):=(blk_cell aa.out 0).trans rfl;have cZ:w45.cell? ⟨ac,1,none⟩=some (.slice al ae.length am):=(blk_cell aa.out 1).trans rfl;have da:=blk_frozen aa.out 0;have db:=blk_frozen aa.out 1;have dc:w45.cell? ⟨ad,0,none⟩=some (.int .i64 ah):=(blk_cell ab.out 0).trans rfl;have dd:w45.cell? ⟨ad,1,none⟩=some (.slice ao ag.length ap):=(blk_cell ab.out 1).trans rfl;have de:=blk_frozen ab.out 0;have df:=blk_frozen ab.out 1)|((with_reducible refine gate_callee (f:=15) rfl ?_);refine goesL_ (some 59) rfl rfl Tryz.func15 Z0 rfl #[.int .i64 74,.agg #[.int .i64 af,.slice al ae.length am],.agg #[.int .i64 ah,.slice ao ag.length ap]] rfl J0 ?_;(with_reducible refine(bits_Holds.calls k 74 af (fun k_=>((((P0_1_ k_∨P1_1_ k_)∨w.heap.size≤k_)∧k_≠ac)∧k_≠ad)) _ _ ae ah (fun k_=>((((P0_1_ k_∨P1_1_ k_)∨w.heap.size≤k_)∧k_≠ac)∧k_≠ad)) _ _ ag _ _ _ ?side1 ?side2 A8.out).mono ?_);(case side1=>exact HO0_1.out);(case side2=>exact HO1_1.out);rintro e w48 ⟨rfl,hb⟩;refine⟨_,rfl,?_⟩;have n0_:=Aside0.mk (Kd.V_below U0 hb);have n1_:=Aside0.mk (Kd.V_below V0 hb);have n2_:=Aside0.mk (blk_below (g:=ac) (o:=.cells #[.int .i64 af,.slice al ae.length am] 28 (0,0)) (by(with_reducible repeat (first|refine blk_drewN ?_ _|refine blk_drew ?_|refine blk_alloc ?_ _));exact aa.out) hb);have n3_:=Aside0.mk (blk_below (g:=ad) (o:=.cells #[.int .i64 ah,.slice ao ag.length ap] 28 (0,0)) (by(with_reducible repeat (first|refine blk_drewN ?_ _|refine blk_drew ?_|refine blk_alloc ?_ _));exact ab.out) hb);have n4_:=Aside0.mk (below_step (by repeat (first|(with_reducible first|exact HB.out|apply below_alloc|apply pw_below_drewN|apply below_drew1|refine below_set ?_ ar.out|refine below_set ?_ ax.out)|exact HB.out)) hb);clear HO0_1;clear HO1_1;clear aa;clear ab;clear HB;have HO0_1:=n0_;have HO1_1:=n1_;have aa:=n2_;have ab:=n3_;have HB:=n4_;clear n0_ n1_ n2_ n3_ n4_;(try clear hb);(try clear hb2);(try clear hk);(try clear hi);have dg:w48.cell? ⟨ac,0,none⟩=some (.int .i64 af):=(blk_cell aa.out 0).trans rfl;have dh:w48.cell? ⟨ac,1,none⟩=some (.slice al ae.length am):=(blk_cell aa.out 1).trans rfl;have di:=blk_frozen aa.out 0;have dj:=blk_frozen aa.out 1;have dk:w48.cell? ⟨ad,0,none⟩=some (.int .i64 ah):=(blk_cell ab.out 0).trans rfl;have dm:w48.cell? ⟨ad,1,none⟩=some (.slice ao ag.length ap):=(blk_cell ab.out 1).trans rfl;have dn:=blk_frozen ab.out 0;have dp:=blk_frozen ab.out 1)|((with_reducible refine gate_callee (f:=15) rfl ?_);refine goesL_ (some 65) rfl rfl Tryz.func15 Z0 rfl #[.int .i64 73,.agg #[.int .i64 af,.slice al ae.length am],.agg #[.int .i64 ah,.slice ao ag.length ap]] rfl J0 ?_;(with_reducible refine(bits_Holds.calls k 73 af (fun k_=>((((P0_1_ k_∨P1_1_ k_)∨w.heap.size≤k_)∧k_≠ac)∧k_≠ad)) _ _ ae ah (fun k_=>((((P0_1_ k_∨P1_1_ k_)∨w.heap.size≤k_)∧k_≠ac)∧k_≠ad)) _ _ ag _ _ _ ?side1 ?side2 A9.out).mono ?_);(case side1=>exact HO0_1.out);(case side2=>exact HO1_1.out);rintro e w51 ⟨rfl,hb⟩;refine⟨_,rfl,?_⟩;have n0_:=Aside0.mk (Kd.V_below U0 hb);have n1_:=Aside0.mk (Kd.V_below V0 hb);have n2_:=Aside0.mk (blk_below (g:=ac) (o:=.cells #[.int .i64 af,.slice al ae.length am] 28 (0,0)) (by(with_reducible repeat (first|refine blk_drewN ?_ _|refine blk_drew ?_|refine blk_alloc ?_ _));exact aa.out) hb);have n3_:=Aside0.mk (blk_below (g:=ad) (o:=.cells #[.int .i64 ah,.slice ao ag.length ap] 28 (0,0)) (by(with_reducible repeat (first|refine blk_drewN ?_ _|refine blk_drew ?_|refine blk_alloc ?_ _));exact ab.out) hb);have n4_:=Aside0.mk (below_step (by repeat (first|(with_reducible first|exact HB.out|apply below_alloc|apply pw_below_drewN|apply below_drew1|refine below_set ?_ ar.out|refine below_set ?_ ax.out)|exact HB.out)) hb);clear HO0_1;clear HO1_1;clear aa;clear ab;clear HB;have HO0_1:=n0_;have HO1_1:=n1_;have aa:=n2_;have ab:=n3_;have HB:=n4_;clear n0_ n1_ n2_ n3_ n4_;(try clear hb);(try clear hb2);(try clear hk);(try clear hi);have dq:w51.cell? ⟨ac,0,none⟩=some (.int .i64 af):=(blk_cell aa.out 0).trans rfl;have dr:w51.cell? ⟨ac,1,none⟩=some (.slice al ae.length am):=(blk_cell aa.out 1).trans rfl;have ds:=blk_frozen aa.out 0;have dt:=blk_frozen aa.out 1;have du:w51.cell? ⟨ad,0,none⟩=some (.int .i64 ah):=(blk_cell ab.out 0).trans rfl;have dw:w51.cell? ⟨ad,1,none⟩=some (.slice ao ag.length ap):=(blk_cell ab.out 1).trans rfl;have dx:=blk_frozen ab.out 0;have dy:=blk_frozen ab.out 1)|((with_reducible refine gate_callee (f:=15) rfl ?_);refine goesL_ (some 71) rfl rfl Tryz.func15 Z0 rfl #[.int .i64 75,.agg #[.int .i64 af,.slice al ae.length am],.agg #[.int .i64 ah,.slice ao ag.length ap]] rfl J0 ?_;(with_reducible refine(bits_Holds.calls k 75 af (fun k_=>((((P0_1_ k_∨P1_1_ k_)∨w.heap.size≤k_)∧k_≠ac)∧k_≠ad)) _ _ ae ah (fun k_=>((((P0_1_ k_∨P1_1_ k_)∨w.heap.size≤k_)∧k_≠ac)∧k_≠ad)) _ _ ag _ _ _ ?side1 ?side2 A10.out).mono ?_);(case side1=>exact HO0_1.out);(case side2=>exact HO1_1.out);rintro e w54 ⟨rfl,hb⟩;refine⟨_,rfl,?_⟩;have n0_:=Aside0.mk (Kd.V_below U0 hb);have n1_:=Aside0.mk (Kd.V_below V0 hb);have n2_:=Aside0.mk (blk_below (g:=ac) (o:=.cells #[.int .i64 af,.slice al ae.length am] 28 (0,0)) (by(with_reducible repeat (first|refine blk_drewN ?_ _|refine blk_drew ?_|refine blk_alloc ?_ _));exact aa.out) hb);have n3_:=Aside0.mk (blk_below (g:=ad) (o:=.cells #[.int .i64 ah,.slice ao ag.length ap] 28 (0,0)) (by(with_reducible repeat (first|refine blk_drewN ?_ _|refine blk_drew ?_|refine blk_alloc ?_ _));exact ab.out) hb);have n4_:=Aside0.mk (below_step (by repeat (first|(with_reducible first|exact HB.out|apply below_alloc|apply pw_below_drewN|apply below_drew1|refine below_set ?_ ar.out|refine below_set ?_ ax.out)|exact HB.out)) hb);clear HO0_1;clear HO1_1;clear aa;clear ab;clear HB;have HO0_1:=n0_;have HO1_1:=n1_;have aa:=n2_;have ab:=n3_;have HB:=n4_;clear n0_ n1_ n2_ n3_ n4_;(try clear hb);(try clear hb2);(try clear hk);(try clear hi);have dz:w54.cell? ⟨ac,0,none⟩=some (.int .i64 af):=(blk_cell aa.out 0).trans rfl;have dA:w54.cell? ⟨ac,1,none⟩=some (.slice al ae.length am):=(blk_cell aa.out 1).trans rfl;have dB:=blk_frozen aa.out 0;have dC:=blk_frozen aa.out 1;have dD:w54.cell? ⟨ad,0,none⟩=some (.int .i64 ah):=(blk_cell ab.out 0).trans rfl;have dE:w54.cell? ⟨ad,1,none⟩=some (.slice ao ag.length ap):=(blk_cell ab.out 1).trans rfl;have dF:=blk_frozen ab.out 0;have dG:=blk_frozen ab.out 1)|((with_reducible refine gate_dst (N:=77) rfl ?_);refine Kd.N_lit k28 _ 28 ?hg (N':=77) ?hd (xs:=([(⟨af,ae⟩:S28),(⟨ah,ag⟩:S28)]:List (S28))) (inner:=[.int .i64 af,.slice al ae.length am,.int .i64 ah,.slice ao ag.length ap]) (ok:=(fun k_=>((P0_1_ k_∨P1_1_ k_)∨w.heap.size≤k_)∧k_≠ac∧k_≠ad)) (okp:=(fun k_=>((P0_1_ k_∨P1_1_ k_)∨w.heap.size≤k_)∧k_≠ac∧k_≠ad)) ?hr ?hp (fun _ hk=>hk) ((show ∀k_,w54.heap.size≤k_→(fun k_=>((P0_1_ k_∨P1_1_ k_)∨w.heap.size≤k_)∧k_≠ac∧k_≠ad) k_ from fun k_ hk=>⟨(.inr (Nat.le_trans (below_size (by repeat (first|(with_reducible first|exact HB.out|apply below_alloc|apply pw_below_drewN|apply below_drew1|refine below_set ?_ ar.out|refine below_set ?_ ax.out)|exact HB.out))) hk)),Kd.freshB (g:=ac) (o:=.cells #[.int .i64 af,.slice al ae.length am] 28 (0,0)) (by(with_reducible repeat (first|refine blk_drewN ?_ _|refine blk_drew ?_|refine blk_alloc ?_ _));exact aa.out) k_ hk,Kd.freshB (g:=ad) (o:=.cells #[.int .i64 ah,.slice ao ag.length ap] 28 (0,0)) (by(with_reducible repeat (first|refine blk_drewN ?_ _|refine blk_drew ?_|refine blk_alloc ?_ _));exact ab.out) k_ hk⟩) _ (Nat.le_refl _)) (Below.refl _ _) (Nat.le_refl _) F1 ?_;(case hd=>rfl);(case hg=>rfl);(case hr=>first|(go_simp;done)|(go_simp;rfl));(case hp=>exact(Reps.c2 (show Kd.FK k28 _ _ (⟨af,ae⟩:S28) [.int .i64 af,.slice al ae.length am] from(k28_mkF _ _ (⟨af,ae⟩:S28) (Kd.V_reads' (Kd.V_mono (ok':=(fun k_=>((P0_1_ k_∨P1_1_ k_)∨w.heap.size≤k_)∧k_≠ac∧k_≠ad)) (HO0_1.out) (fun k_ hk=>⟨hk.1.1,⟨hk.1.2,hk.2⟩⟩))).2.1 (Kd.V_F (Kd.V_mono (ok':=(fun k_=>((P0_1_ k_∨P1_1_ k_)∨w.heap.size≤k_)∧k_≠ac∧k_≠ad)) (HO0_1.out) (fun k_ hk=>⟨hk.1.1,⟨hk.1.2,hk.2⟩⟩))))) (Reps.c2 (show Kd.FK k28 _ _ (⟨ah,ag⟩:S28) [.int .i64 ah,.slice ao ag.length ap] from(k28_mkF _ _ (⟨ah,ag⟩:S28) (Kd.V_reads' (Kd.V_mono (ok':=(fun k_=>((P0_1_ k_∨P1_1_ k_)∨w.heap.size≤k_)∧k_≠ac∧k_≠ad)) (HO1_1.out) (fun k_ hk=>⟨hk.1.1,⟨hk.1.2,hk.2⟩⟩))).2.1 (Kd.V_F (Kd.V_mono (ok':=(fun k_=>((P0_1_ k_∨P1_1_ k_)∨w.heap.size≤k_)∧k_≠ac∧k_≠ad)) (HO1_1.out) (fun k_ hk=>⟨hk.1.1,⟨hk.1.2,hk.2⟩⟩))))) (Reps.none _ _))));intro bG w57 bd hb hg_ hnew_;clear hg_ hnew_;(first|rw[←be.out]at bd|(simp only[Int.reduceToNat]at bd;rw[←be.out]at bd));have n0_:=Aside0.mk (Kd.V_elder' U0 (Kd.N_base bd) hb);have n1_:=Aside0.mk (Kd.V_elder' V0 (Kd.N_base bd) hb);have n2_:=Aside0.mk (Kd.N_lower bd (below_size (by repeat (first|(with_reducible first|exact HB.out|apply below_alloc|apply pw_below_drewN|apply below_drew1|refine below_set ?_ ar.out|refine below_set ?_ ax.out)|exact HB.out))));have n3_:=Aside0.mk (blk_below (g:=ac) (o:=.cells #[.int .i64 af,.slice al ae.length am] 28 (0,0)) (by(with_reducible repeat (first|refine blk_drewN ?_ _|refine blk_drew ?_|refine blk_alloc ?_ _));exact aa.out) hb);have n4_:=Aside0.mk (blk_below (g:=ad) (o:=.cells #[.int .i64 ah,.slice ao ag.length ap] 28 (0,0)) (by(with_reducible repeat (first|refine blk_drewN ?_ _|refine blk_drew ?_|refine blk_alloc ?_ _));exact ab.out) hb);have n5_:=Aside0.mk (below_step (by repeat (first|(with_reducible first|exact HB.out|apply below_alloc|apply pw_below_drewN|apply below_drew1|refine below_set ?_ ar.out|refine below_set ?_ ax.out)|exact HB.out)) hb);clear HO0_1;clear HO1_1;clear aa;clear ab;clear HB;have HO0_1:=n0_;have HO1_1:=n1_;have HO1106:=n2_;have aa:=n3_;have ab:=n4_;have HB:=n5_;clear n0_ n1_ n2_ n3_ n4_ n5_;clear hb bd;obtain⟨bi,bj,bN⟩:=Kd.N_slice HO1106.out;subst bN)|((with_reducible refine gate_callee (f:=11) rfl ?_);refine goesL_ (some 78) rfl rfl Tryz.func11 Z0 rfl #[.int .i64 51,.slice none 0 0,.slice bi aT.length bj] rfl J0 ?_;(refine(bits_Apply.calls k 51 _ _ ([]:List Int) _ _ aT aL aE aV _ ?side1 ?side2 ?side3 ?side4 A11.out).mono ?_);(case side1=>exact Kd.C_nil _ _);(case side2=>exact Nat.le_refl _);(case side3=>repeat (first|exact(Kd.N_reads' HO1106.out).2.2|(with_reducible refine Kd.C_alloc ?_ _)|(with_reducible refine Kd.C_drewN ?_ _)|(with_reducible refine Kd.C_drew ?_)));(case side4=>exact(Kd.N_reads' HO1106.out).2.1);rintro e w60 ⟨bH,rfl,ho0,hb⟩;refine⟨_,rfl,?_⟩;have n0_:=Aside0.mk (Kd.V_elder' U0 (Kd.R_base ho0) hb);have n1_:=Aside0.mk (Kd.V_elder' V0 (Kd.R_base ho0) hb);have n2_:=Aside0.mk (Kd.N_elder' Y2 (Kd.R_base ho0) hb);have n3_:=Aside0.mk (Kd.R_lower (Kd.R_newM (M:=fun k_=>(w.heap.size≤k_)) (Kd.R_mono (ok':=fun k_=>True) ho0 (fun _ hk_=>trivial)) (below_size (by repeat (first|(with_reducible first|exact HB.out|apply below_alloc|apply pw_below_drewN|apply below_drew1|refine below_set ?_ ar.out|refine below_set ?_ ax.out)|exact HB.out))) (fun k_ h_=>h_)) (below_size (by repeat (first|(with_reducible first|exact HB.out|apply below_alloc|apply pw_below_drewN|apply below_drew1|refine below_set ?_ ar.out|refine below_set ?_ ax.out)|exact HB.out))));have n4_:=Aside0.mk (blk_below (g:=ac) (o:=.cells #[.int .i64 af,.slice al ae.length am] 28 (0,0)) (by(with_reducible repeat (first|refine blk_drewN ?_ _|refine blk_drew ?_|refine blk_alloc ?_ _));exact aa.out) hb);have n5_:=Aside0.mk (blk_below (g:=ad) (o:=.cells #[.int .i64 ah,.slice ao ag.length ap] 28 (0,0)) (by(with_reducible repeat (first|refine blk_drewN ?_ _|refine blk_drew ?_|refine blk_alloc ?_ _));exact ab.out) hb);have n6_:=Aside0.mk (below_step (by repeat (first|(with_reducible first|exact HB.out|apply below_alloc|apply pw_below_drewN|apply below_drew1|refine below_set ?_ ar.out|refine below_set ?_ ax.out)|exact HB.out)) hb);clear HO0_1;clear HO1_1;clear HO1106;clear aa;clear ab;clear HB;have HO0_1:=n0_;have HO1_1:=n1_;have HO1106:=n2_;have HO1110:=n3_;have aa:=n4_;have ab:=n5_;have HB:=n6_;clear n0_ n1_ n2_ n3_ n4_ n5_ n6_;(try clear hb);(try clear hb2);(try clear hk);(try clear hi);(try clear ho0))|((with_reducible refine gate_dst (N:=21) rfl ?_);refine box_event ?hg (N:=21) ?hd (cs:=#[.int .i64 0,.slice none 0 0]) (t:=28) ?hr ?_;(case hd=>rfl);(case hg=>rfl);(case hr=>first|(go_simp;done)|(go_simp;rfl));intro ak hg w61 hbox hb;have n0_:=Aside0.mk (Kd.V_below (Kd.V_elderB U0 ak (Nat.le_of_eq hg.symm)) hb);have n1_:=Aside0.mk (Kd.V_below (Kd.V_elderB V0 ak (Nat.le_of_eq hg.symm)) hb);have n2_:=Aside0.mk (Kd.N_below (Kd.N_elderB Y2 ak (Nat.le_of_eq hg.symm)) hb);have n3_:=Aside0.mk (Kd.R_below F3 hb);have n4_:=Aside0.mk (blk_below (g:=ac) (o:=.cells #[.int .i64 af,.slice al ae.length am] 28 (0,0)) (by(with_reducible repeat (first|refine blk_drewN ?_ _|refine blk_drew ?_|refine blk_alloc ?_ _));exact aa.out) hb);have n5_:=Aside0.mk (blk_below (g:=ad) (o:=.cells #[.int .i64 ah,.slice ao ag.length ap] 28 (0,0)) (by(with_reducible repeat (first|refine blk_drewN ?_ _|refine blk_drew ?_|refine blk_alloc ?_ _));exact ab.out) hb);have n6_:=Aside0.mk (below_step (by repeat (first|(with_reducible first|exact HB.out|apply below_alloc|apply pw_below_drewN|apply below_drew1|refine below_set ?_ ar.out|refine below_set ?_ ax.out)|exact HB.out)) hb);have n7_:=Aside0.mk (hbox);have n8_:=Aside0.mk ((by rw[hg];exact(below_size (by repeat (first|(with_reducible first|exact HB.out|apply below_alloc|apply pw_below_drewN|apply below_drew1|refine below_set ?_ ar.out|refine below_set ?_ ax.out)|exact HB.out))):w.heap.size≤ak));have n9_:=Aside0.mk ((by rw[hg];exact(below_size (by repeat (first|(with_reducible first|exact HB.out|apply below_alloc|apply pw_below_drewN|apply below_drew1|refine below_set ?_ ar.out|refine below_set ?_ ax.out)|exact HB.out))):w.heap.size≤ak));have n10_:=Aside0.mk ((by rw[hg];exact Nat.ne_of_lt (blk_lt (g:=ac) (o:=.cells #[.int .i64 af,.slice al ae.length am] 28 (0,0)) (by(with_reducible repeat (first|refine blk_drewN ?_ _|refine blk_drew ?_|refine blk_alloc ?_ _));exact aa.out)):ac≠ak));have n11_:=Aside0.mk ((by rw[hg];exact Nat.ne_of_gt (blk_lt (g:=ac) (o:=.cells #[.int .i64 af,.slice al ae.length am] 28 (0,0)) (by(with_reducible repeat (first|refine blk_drewN ?_ _|refine blk_drew ?_|refine blk_alloc ?_ _));exact aa.out)):ak≠ac));have n12_:=Aside0.mk ((by rw[hg];exact Nat.ne_of_lt (blk_lt (g:=ad) (o:=.cells #[.int .i64 ah,.slice ao ag.length ap] 28 (0,0)) (by(with_reducible repeat (first|refine blk_drewN ?_ _|refine blk_drew ?_|refine blk_alloc ?_ _));exact ab.out)):ad≠ak));have n13_:=Aside0.mk ((by rw[hg];exact Nat.ne_of_gt (blk_lt (g:=ad) (o:=.cells #[.int .i64 ah,.slice ao ag.length ap] 28 (0,0)) (by(with_reducible repeat (first|refine blk_drewN ?_ _|refine blk_drew ?_|refine blk_alloc ?_ _));exact ab.out)):ak≠ad));clear HO0_1;clear HO1_1;clear HO1106;clear HO1110;clear aa;clear ab;clear HB;have HO0_1:=n0_;have HO1_1:=n1_;have HO1106:=n2_;have HO1110:=n3_;have aa:=n4_;have ab:=n5_;have HB:=n6_;have aF:=n7_;have bu:=n8_;have aU:=n9_;have aN:=n10_;have aY:=n11_;have aO:=n12_;have aZ:=n13_;clear n0_ n1_ n2_ n3_ n4_ n5_ n6_ n7_ n8_ n9_ n10_ n11_ n12_ n13_;clear hb hbox hg;have fl:=aY.out;have fm:=aN.out;have fn:=aZ.out;have fo:=aO.out;have dH:w61.cell? ⟨ak,0,none⟩=some (.int .i64 0):=(blk_cell aF.out 0).trans rfl;have dI:w61.cell? ⟨ak,1,none⟩=some (.slice none 0 0):=(blk_cell aF.out 1).trans rfl;have dJ:=blk_frozen aF.out 0;have dK:=blk_frozen aF.out 1;obtain⟨aR,aS,bO⟩:=Kd.R_slice HO1110.out;subst bO)|((with_reducible refine gate_store (t:=28) (p:=21) rfl ?_);refine store_event (t:=28) (p:=21) (v:=?vo_w66) (w1:=((w61.setCell ⟨ak,0,none⟩ (.int .i64 aL)).setCell ⟨ak,1,none⟩ (.slice aR aE.length aS))) ?hg ?ho ?hn ?hr ?_;(case ho=>rfl);(case hg=>rfl);(case hn=>rfl);(case hr=>first|(go_simp;done)|(go_simp;rfl));intro w66 hw;have n0_:Aside0 (Kd.V (Kd.int .u64) 48 w66 w.heap.size (fun k_=>((P0_1_ k_∨P1_1_ k_)∨w.heap.size≤k_)∧some k_≠(.slice bi aT.length bj:Value).ownBlock∧some k_≠(.slice aR aE.length aS:Value).ownBlock∧k_≠ac∧k_≠ad∧k_≠ak) (.slice al ae.length am) ae):=⟨(by rw[hw];exact(by(with_reducible repeat (first|apply Kd.V_alloc|apply Kd.V_drewN|apply Kd.V_drew));exact Kd.V_mono (Kd.V_far (p:=⟨ak,1,none⟩) (Kd.V_far (p:=⟨ak,0,none⟩) (Kd.V_mono HO0_1.out (fun k_ hk=>(⟨hk,hk.2⟩:_∧k_≠ak))) (fun _ hk=>hk.2) (.int .i64 aL)) (fun _ hk=>hk.2) (.slice aR aE.length aS)) (fun _ hk=>⟨hk.1.1.1.1.1.1,⟨hk.1.1.1.2,⟨hk.1.1.2,⟨hk.1.1.1.1.1.2,⟨hk.1.1.1.1.2,hk.1.2⟩⟩⟩⟩⟩)))⟩;have n1_:Aside0 (Kd.V (Kd.int .u64) 48 w66 w.heap.size (fun k_=>((P0_1_ k_∨P1_1_ k_)∨w.heap.size≤k_)∧some k_≠(.slice bi aT.length bj:Value).ownBlock∧some k_≠(.slice aR aE.length aS:Value).ownBlock∧k_≠ac∧k_≠ad∧k_≠ak) (.slice ao ag.length ap) ag):=⟨(by rw[hw];exact(by(with_reducible repeat (first|apply Kd.V_alloc|apply Kd.V_drewN|apply Kd.V_drew));exact Kd.V_mono (Kd.V_far (p:=⟨ak,1,none⟩) (Kd.V_far (p:=⟨ak,0,none⟩) (Kd.V_mono HO1_1.out (fun k_ hk=>(⟨hk,hk.2⟩:_∧k_≠ak))) (fun _ hk=>hk.2) (.int .i64 aL)) (fun _ hk=>hk.2) (.slice aR aE.length aS)) (fun _ hk=>⟨hk.1.1.1.1.1.1,⟨hk.1.1.1.2,⟨hk.1.1.2,⟨hk.1.1.1.1.1.2,⟨hk.1.1.1.1.2,hk.1.2⟩⟩⟩⟩⟩)))⟩;have n2_:Aside0 (Kd.N k28 28 w66 w.heap.size (fun k_=>((P0_1_ k_∨P1_1_ k_)∨w.heap.size≤k_)∧some k_≠(.slice aR aE.length aS:Value).ownBlock∧k_≠ac∧k_≠ad∧k_≠ak) (.slice bi aT.length bj) aT):=⟨(by rw[hw];exact(by(with_reducible repeat (first|apply Kd.N_alloc|apply Kd.N_drewN|apply Kd.N_drew));exact Kd.N_mono (Kd.N_far (p:=⟨ak,1,none⟩) (Kd.N_far (p:=⟨ak,0,none⟩) (Kd.N_mono HO1106.out (fun k_ hk=>(⟨hk,hk.2⟩:_∧k_≠ak))) (fun _ hk=>hk.2) (.int .i64 aL)) (fun _ hk=>hk.2) (.slice aR aE.length aS)) (fun _ hk=>⟨hk.1.1.1.1,⟨hk.1.1.2,⟨hk.1.1.1.2.1,⟨hk.1.1.1.2.2,hk.1.2⟩⟩⟩⟩)))⟩;have n3_:Aside0 (Kd.R (Kd.int .u64) 48 w66 w.heap.size (fun k_=>(w.heap.size≤k_)) (.slice aR aE.length aS) aE):=⟨(by rw[hw];exact(by(with_reducible repeat (first|apply Kd.R_alloc|apply Kd.R_drewN|apply Kd.R_drew));exact Kd.R_mono (Kd.R_far (p:=⟨ak,1,none⟩) (Kd.R_far (p:=⟨ak,0,none⟩) (Kd.R_types HO1110.out aF.out X0) (fun _ hk=>hk.2) (.int .i64 aL)) (fun _ hk=>hk.2) (.slice aR aE.length aS)) (fun _ hk=>hk.1.1)))⟩;have n4_:Aside0 (w66.heap[ac]? = some (.cells #[.int .i64 af,.slice al ae.length am] 28 (0,0))):=⟨(by rw[hw];exact(by(with_reducible repeat (first|refine blk_drewN ?_ _|refine blk_drew ?_|refine blk_alloc ?_ _));refine blk_far ?_ aN.out _;(with_reducible repeat (first|refine blk_drewN ?_ _|refine blk_drew ?_|refine blk_alloc ?_ _));refine blk_far ?_ aN.out _;(with_reducible repeat (first|refine blk_drewN ?_ _|refine blk_drew ?_|refine blk_alloc ?_ _));exact aa.out))⟩;have n5_:Aside0 (w66.heap[ad]? = some (.cells #[.int .i64 ah,.slice ao ag.length ap] 28 (0,0))):=⟨(by rw[hw];exact(by(with_reducible repeat (first|refine blk_drewN ?_ _|refine blk_drew ?_|refine blk_alloc ?_ _));refine blk_far ?_ aO.out _;(with_reducible repeat (first|refine blk_drewN ?_ _|refine blk_drew ?_|refine blk_alloc ?_ _));refine blk_far ?_ aO.out _;(with_reducible repeat (first|refine blk_drewN ?_ _|refine blk_drew ?_|refine blk_alloc ?_ _));exact ab.out))⟩;have n6_:Aside0 (w66.heap[ak]? = some (.cells #[.int .i64 aL,.slice aR aE.length aS] 28 (0,0))):=⟨(by rw[hw];exact(by(with_reducible repeat (first|refine blk_drewN ?_ _|refine blk_drew ?_|refine blk_alloc ?_ _));refine blk_put (cs:=#[.int .i64 aL,.slice none 0 0]) ?_ 1 _ rfl;(with_reducible repeat (first|refine blk_drewN ?_ _|refine blk_drew ?_|refine blk_alloc ?_ _));refine blk_put (cs:=#[.int .i64 0,.slice none 0 0]) ?_ 0 _ rfl;(with_reducible repeat (first|refine blk_drewN ?_ _|refine blk_drew ?_|refine blk_alloc ?_ _));exact aF.out))⟩;have n7_:Aside0 (Below w.heap.size w w66):=⟨(by rw[hw];exact(by repeat (first|(with_reducible first|exact HB.out|apply below_alloc|apply pw_below_drewN|apply below_drew1|refine below_set ?_ ar.out|refine below_set ?_ ax.out|refine below_set ?_ aU.out)|exact HB.out)))⟩;clear hw;clear HO0_1;clear HO1_1;clear HO1106;clear HO1110;clear aa;clear ab;clear aF;clear HB;have HO0_1:=n0_;have HO1_1:=n1_;have HO1106:=n2_;have HO1110:=n3_;have aa:=n4_;have ab:=n5_;have aF:=n6_;have HB:=n7_;clear n0_ n1_ n2_ n3_ n4_ n5_ n6_ n7_;have dL:w66.cell? ⟨ak,0,none⟩=some (.int .i64 aL):=(blk_cell aF.out 0).trans rfl;have dM:w66.cell? ⟨ak,1,none⟩=some (.slice aR aE.length aS):=(blk_cell aF.out 1).trans rfl;have dN:=blk_frozen aF.out 0;have dO:=blk_frozen aF.out 1;have dP:w66.cell? ⟨ad,0,none⟩=some (.int .i64 ah):=(blk_cell ab.out 0).trans rfl;have dQ:w66.cell? ⟨ad,1,none⟩=some (.slice ao ag.length ap):=(blk_cell ab.out 1).trans rfl;have dR:=blk_frozen ab.out 0;have dS:=blk_frozen ab.out 1;have dT:w66.cell? ⟨ac,0,none⟩=some (.int .i64 af):=(blk_cell aa.out 0).trans rfl;have dU:w66.cell? ⟨ac,1,none⟩=some (.slice al ae.length am):=(blk_cell aa.out 1).trans rfl;have dV:=blk_frozen aa.out 0;have dW:=blk_frozen aa.out 1)|((with_reducible refine gate_callee (f:=15) rfl ?_);refine goesL_ (some 109) rfl rfl Tryz.func15 Z0 rfl #[.int .i64 68,.agg #[.int .i64 ah,.slice ao ag.length ap],.agg #[.int .i64 af,.slice al ae.length am]] rfl J0 ?_;(with_reducible refine(bits_Holds.calls k 68 ah (fun k_=>(((P0_1_ k_∨P1_1_ k_)∨w.heap.size≤k_)∧(some k_≠(.slice bi aT.length bj:Value).ownBlock∧(some k_≠(.slice aR aE.length aS:Value).ownBlock∧(k_≠ac∧(k_≠ad∧k_≠ak)))))) _ _ ag af (fun k_=>(((P0_1_ k_∨P1_1_ k_)∨w.heap.size≤k_)∧(some k_≠(.slice bi aT.length bj:Value).ownBlock∧(some k_≠(.slice aR aE.length aS:Value).ownBlock∧(k_≠ac∧(k_≠ad∧k_≠ak)))))) _ _ ae _ _ _ ?side1 ?side2 A13.out).mono ?_);(case side1=>exact HO1_1.out);(case side2=>exact HO0_1.out);rintro e w70 ⟨rfl,hb⟩;refine⟨_,rfl,?_⟩;have n0_:=Aside0.mk (Kd.V_below U0 hb);have n1_:=Aside0.mk (Kd.V_below V0 hb);have n2_:=Aside0.mk (Kd.N_below Y2 hb);have n3_:=Aside0.mk (Kd.R_below F3 hb);have n4_:=Aside0.mk (blk_below (g:=ac) (o:=.cells #[.int .i64 af,.slice al ae.length am] 28 (0,0)) (by(with_reducible repeat (first|refine blk_drewN ?_ _|refine blk_drew ?_|refine blk_alloc ?_ _));exact aa.out) hb);have n5_:=Aside0.mk (blk_below (g:=ad) (o:=.cells #[.int .i64 ah,.slice ao ag.length ap] 28 (0,0)) (by(with_reducible repeat (first|refine blk_drewN ?_ _|refine blk_drew ?_|refine blk_alloc ?_ _));exact ab.out) hb);have n6_:=Aside0.mk (blk_below (g:=ak) (o:=.cells #[.int .i64 aL,.slice aR aE.length aS] 28 (0,0)) (by(with_reducible repeat (first|refine blk_drewN ?_ _|refine blk_drew ?_|refine blk_alloc ?_ _));exact aF.out) hb);have n7_:=Aside0.mk (below_step (by repeat (first|(with_reducible first|exact HB.out|apply below_alloc|apply pw_below_drewN|apply below_drew1|refine below_set ?_ ar.out|refine below_set ?_ ax.out|refine below_set ?_ aU.out)|exact HB.out)) hb);clear HO0_1;clear HO1_1;clear HO1106;clear HO1110;clear aa;clear ab;clear aF;clear HB;have HO0_1:=n0_;have HO1_1:=n1_;have HO1106:=n2_;have HO1110:=n3_;have aa:=n4_;have ab:=n5_;have aF:=n6_;have HB:=n7_;clear n0_ n1_ n2_ n3_ n4_ n5_ n6_ n7_;(try clear hb);(try clear hb2);(try clear hk);(try clear hi))|(go_at_call 14;(with_reducible refine(tribunallaw09_alive.calls k az _ A27.out).mono ?_);rintro e w71 ⟨rfl,hb⟩;have n0_:=Aside0.mk (Kd.V_below U0 hb);have n1_:=Aside0.mk (Kd.V_below V0 hb);have n2_:=Aside0.mk (Kd.N_below Y2 hb);have n3_:=Aside0.mk (Kd.R_below F3 hb);have n4_:=Aside0.mk (blk_below (g:=ac) (o:=.cells #[.int .i64 af,.slice al ae.length am] 28 (0,0)) (by(with_reducible repeat (first|refine blk_drewN ?_ _|refine blk_drew ?_|refine blk_alloc ?_ _));exact aa.out) hb);have n5_:=Aside0.mk (blk_below (g:=ad) (o:=.cells #[.int .i64 ah,.slice ao ag.length ap] 28 (0,0)) (by(with_reducible repeat (first|refine blk_drewN ?_ _|refine blk_drew ?_|refine blk_alloc ?_ _));exact ab.out) hb);have n6_:=Aside0.mk (blk_below (g:=ak) (o:=.cells #[.int .i64 aL,.slice aR aE.length aS] 28 (0,0)) (by(with_reducible repeat (first|refine blk_drewN ?_ _|refine blk_drew ?_|refine blk_alloc ?_ _));exact aF.out) hb);have n7_:=Aside0.mk (below_step (by repeat (first|(with_reducible first|exact HB.out|apply below_alloc|apply pw_below_drewN|apply below_drew1|refine below_set ?_ ar.out|refine below_set ?_ ax.out|refine below_set ?_ aU.out)|exact HB.out)) hb);clear HO0_1;clear HO1_1;clear HO1106;clear HO1110;clear aa;clear ab;clear aF;clear HB;have HO0_1:=n0_;have HO1_1:=n1_;have HO1106:=n2_;have HO1110:=n3_;have aa:=n4_;have ab:=n5_;have aF:=n6_;have HB:=n7_;clear n0_ n1_ n2_ n3_ n4_ n5_ n6_ n7_;(try clear hb);(try clear hb2);(try clear hk);(try clear hi)))
    go_ret
    exact⟨D4,by repeat (first|(with_reducible first|exact HB.out|apply below_alloc|apply pw_below_drewN|apply below_drew1|refine below_set ?_ ar.out|refine below_set ?_ ax.out|refine below_set ?_ aU.out)|exact HB.out)⟩
  rw[if_neg c14]at H
  exact absurd H F1
 rw[if_neg c12]at H
 have bE:(an==0)=false:=beq_eq_false_iff_ne.mpr c12
 have bF:(an != 0)=true:=bne_iff_ne.mpr c12
 by_cases c26:an=aM∧an=aV∧(an=90∨an=52)
 ·rw[if_pos c26]at H
  obtain⟨c27,c28,c29⟩:=c26
  have fp:(an==aM)=true:=beq_iff_eq.mpr c27
  have fq:(an==aV)=true:=beq_iff_eq.mpr c28
  clear c27 c28
  replace H:=Option.bind_eq_some_iff.mp H
  obtain⟨az,bk,H⟩:=H
  have A76:=Aside0.mk bk
  clear bk
  obtain rfl:=Option.some.inj H
  have c30:((an==90)=true)∨((an==90)=false∧(an==52)=true):=by rcases c29 with rfl|rfl<;>simp
  clear c12 c29
  rcases c30 with bI|⟨bI,fr⟩
  all_goals
   go_enter Tryz.func7,Tryz.ntmps7
   go_wp2_with (first|((with_reducible refine gate_dst (N:=2) rfl ?_);refine box_event ?hg (N:=2) ?hd (cs:=#[.int .i64 af,.slice al ae.length am]) (t:=28) ?hr ?_;(case hd=>rfl);(case hg=>rfl);(case hr=>first|(go_simp;done)|(go_simp;rfl));intro ac hg w77 hbox hb;have n0_:=Aside0.mk (Kd.V_below (Kd.V_elderB U0 ac (Nat.le_of_eq hg.symm)) hb);have n1_:=Aside0.mk (Kd.V_below (Kd.V_elderB V0 ac (Nat.le_of_eq hg.symm)) hb);have n2_:=Aside0.mk (below_step X1 hb);have n3_:=Aside0.mk (hbox);have n4_:=Aside0.mk ((by rw[hg];exact(below_size X1):w.heap.size≤ac));have n5_:=Aside0.mk ((by rw[hg];exact(below_size X1):w.heap.size≤ac));clear HO0_1;clear HO1_1;clear HB;have HO0_1:=n0_;have HO1_1:=n1_;have HB:=n2_;have aa:=n3_;have bq:=n4_;have ar:=n5_;clear n0_ n1_ n2_ n3_ n4_ n5_;clear hb hbox hg)|((with_reducible refine gate_dst (N:=3) rfl ?_);refine box_event ?hg (N:=3) ?hd (cs:=#[.int .i64 ah,.slice ao ag.length ap]) (t:=28) ?hr ?_;(case hd=>rfl);(case hg=>rfl);(case hr=>first|(go_simp;done)|(go_simp;rfl));intro ad hg w78 hbox hb;have n0_:=Aside0.mk (Kd.V_below (Kd.V_elderB U0 ad (Nat.le_of_eq hg.symm)) hb);have n1_:=Aside0.mk (Kd.V_below (Kd.V_elderB V0 ad (Nat.le_of_eq hg.symm)) hb);have n2_:=Aside0.mk (blk_below (g:=ac) (o:=.cells #[.int .i64 af,.slice al ae.length am] 28 (0,0)) (by(with_reducible repeat (first|refine blk_drewN ?_ _|refine blk_drew ?_|refine blk_alloc ?_ _));exact aa.out) hb);have n3_:=Aside0.mk (below_step (by repeat (first|(with_reducible first|exact HB.out|apply below_alloc|apply pw_below_drewN|apply below_drew1|refine below_set ?_ ar.out)|exact HB.out)) hb);have n4_:=Aside0.mk (hbox);have n5_:=Aside0.mk ((by rw[hg];exact(below_size (by repeat (first|(with_reducible first|exact HB.out|apply below_alloc|apply pw_below_drewN|apply below_drew1|refine below_set ?_ ar.out)|exact HB.out))):w.heap.size≤ad));have n6_:=Aside0.mk ((by rw[hg];exact(below_size (by repeat (first|(with_reducible first|exact HB.out|apply below_alloc|apply pw_below_drewN|apply below_drew1|refine below_set ?_ ar.out)|exact HB.out))):w.heap.size≤ad));have n7_:=Aside0.mk ((by rw[hg];exact Nat.ne_of_lt (blk_lt (g:=ac) (o:=.cells #[.int .i64 af,.slice al ae.length am] 28 (0,0)) (by(with_reducible repeat (first|refine blk_drewN ?_ _|refine blk_drew ?_|refine blk_alloc ?_ _));exact aa.out)):ac≠ad));have n8_:=Aside0.mk ((by rw[hg];exact Nat.ne_of_gt (blk_lt (g:=ac) (o:=.cells #[.int .i64 af,.slice al ae.length am] 28 (0,0)) (by(with_reducible repeat (first|refine blk_drewN ?_ _|refine blk_drew ?_|refine blk_alloc ?_ _));exact aa.out)):ad≠ac));clear HO0_1;clear HO1_1;clear aa;clear HB;have HO0_1:=n0_;have HO1_1:=n1_;have aa:=n2_;have HB:=n3_;have ab:=n4_;have br:=n5_;have ax:=n6_;have aW:=n7_;have aX:=n8_;clear n0_ n1_ n2_ n3_ n4_ n5_ n6_ n7_ n8_;clear hb hbox hg;have fs:=aW.out;have ft:=aX.out;have dX:w78.cell? ⟨ac,0,none⟩=some (.int .i64 af):=(blk_cell aa.out 0).trans rfl;have dY:w78.cell? ⟨ac,1,none⟩=some (.slice al ae.length am):=(blk_cell aa.out 1).trans rfl;have dZ:=blk_frozen aa.out 0;have ea:=blk_frozen aa.out 1;have eb:w78.cell? ⟨ad,0,none⟩=some (.int .i64 ah):=(blk_cell ab.out 0).trans rfl;have ec:w78.cell? ⟨ad,1,none⟩=some (.slice ao ag.length ap):=(blk_cell ab.out 1).trans rfl;have ed:=blk_frozen ab.out 0;have ee:=blk_frozen ab.out 1)|((with_reducible refine gate_callee (f:=15) rfl ?_);refine goesL_ (some 29) rfl rfl Tryz.func15 Z0 rfl #[.int .i64 68,.agg #[.int .i64 af,.slice al ae.length am],.agg #[.int .i64 ah,.slice ao ag.length ap]] rfl J0 ?_;(with_reducible refine(bits_Holds.calls k 68 af (fun k_=>((((P0_1_ k_∨P1_1_ k_)∨w.heap.size≤k_)∧k_≠ac)∧k_≠ad)) _ _ ae ah (fun k_=>((((P0_1_ k_∨P1_1_ k_)∨w.heap.size≤k_)∧k_≠ac)∧k_≠ad)) _ _ ag au an _ ?side1 ?side2 A3.out).mono ?_);(case side1=>exact HO0_1.out);(case side2=>exact HO1_1.out);rintro e w82 ⟨rfl,hb⟩;refine⟨_,rfl,?_⟩;have n0_:=Aside0.mk (Kd.V_below U0 hb);have n1_:=Aside0.mk (Kd.V_below V0 hb);have n2_:=Aside0.mk (blk_below (g:=ac) (o:=.cells #[.int .i64 af,.slice al ae.length am] 28 (0,0)) (by(with_reducible repeat (first|refine blk_drewN ?_ _|refine blk_drew ?_|refine blk_alloc ?_ _));exact aa.out) hb);have n3_:=Aside0.mk (blk_below (g:=ad) (o:=.cells #[.int .i64 ah,.slice ao ag.length ap] 28 (0,0)) (by(with_reducible repeat (first|refine blk_drewN ?_ _|refine blk_drew ?_|refine blk_alloc ?_ _));exact ab.out) hb);have n4_:=Aside0.mk (below_step (by repeat (first|(with_reducible first|exact HB.out|apply below_alloc|apply pw_below_drewN|apply below_drew1|refine below_set ?_ ar.out|refine below_set ?_ ax.out)|exact HB.out)) hb);clear HO0_1;clear HO1_1;clear aa;clear ab;clear HB;have HO0_1:=n0_;have HO1_1:=n1_;have aa:=n2_;have ab:=n3_;have HB:=n4_;clear n0_ n1_ n2_ n3_ n4_;(try clear hb);(try clear hb2);(try clear hk);(try clear hi);have ef:w82.cell? ⟨ac,0,none⟩=some (.int .i64 af):=(blk_cell aa.out 0).trans rfl;have eg:w82.cell? ⟨ac,1,none⟩=some (.slice al ae.length am):=(blk_cell aa.out 1).trans rfl;have eh:=blk_frozen aa.out 0;have ei:=blk_frozen aa.out 1;have ej:w82.cell? ⟨ad,0,none⟩=some (.int .i64 ah):=(blk_cell ab.out 0).trans rfl;have ek:w82.cell? ⟨ad,1,none⟩=some (.slice ao ag.length ap):=(blk_cell ab.out 1).trans rfl;have el:=blk_frozen ab.out 0;have em:=blk_frozen ab.out 1)|((with_reducible refine gate_callee (f:=15) rfl ?_);refine goesL_ (some 35) rfl rfl Tryz.func15 Z0 rfl #[.int .i64 69,.agg #[.int .i64 af,.slice al ae.length am],.agg #[.int .i64 ah,.slice ao ag.length ap]] rfl J0 ?_;(with_reducible refine(bits_Holds.calls k 69 af (fun k_=>((((P0_1_ k_∨P1_1_ k_)∨w.heap.size≤k_)∧k_≠ac)∧k_≠ad)) _ _ ae ah (fun k_=>((((P0_1_ k_∨P1_1_ k_)∨w.heap.size≤k_)∧k_≠ac)∧k_≠ad)) _ _ ag av bx _ ?side1 ?side2 A4.out).mono ?_);(case side1=>exact HO0_1.out);(case side2=>exact HO1_1.out);rintro e w85 ⟨rfl,hb⟩;refine⟨_,rfl,?_⟩;have n0_:=Aside0.mk (Kd.V_below U0 hb);have n1_:=Aside0.mk (Kd.V_below V0 hb);have n2_:=Aside0.mk (blk_below (g:=ac) (o:=.cells #[.int .i64 af,.slice al ae.length am] 28 (0,0)) (by(with_reducible repeat (first|refine blk_drewN ?_ _|refine blk_drew ?_|refine blk_alloc ?_ _));exact aa.out) hb);have n3_:=Aside0.mk (blk_below (g:=ad) (o:=.cells #[.int .i64 ah,.slice ao ag.length ap] 28 (0,0)) (by(with_reducible repeat (first|refine blk_drewN ?_ _|refine blk_drew ?_|refine blk_alloc ?_ _));exact ab.out) hb);have n4_:=Aside0.mk (below_step (by repeat (first|(with_reducible first|exact HB.out|apply below_alloc|apply pw_below_drewN|apply below_drew1|refine below_set ?_ ar.out|refine below_set ?_ ax.out)|exact HB.out)) hb);clear HO0_1;clear HO1_1;clear aa;clear ab;clear HB;have HO0_1:=n0_;have HO1_1:=n1_;have aa:=n2_;have ab:=n3_;have HB:=n4_;clear n0_ n1_ n2_ n3_ n4_;(try clear hb);(try clear hb2);(try clear hk);(try clear hi);have en:w85.cell? ⟨ac,0,none⟩=some (.int .i64 af):=(blk_cell aa.out 0).trans rfl;have eo:w85.cell? ⟨ac,1,none⟩=some (.slice al ae.length am):=(blk_cell aa.out 1).trans rfl;have ep:=blk_frozen aa.out 0;have er:=blk_frozen aa.out 1;have es:w85.cell? ⟨ad,0,none⟩=some (.int .i64 ah):=(blk_cell ab.out 0).trans rfl;have et:w85.cell? ⟨ad,1,none⟩=some (.slice ao ag.length ap):=(blk_cell ab.out 1).trans rfl;have eu:=blk_frozen ab.out 0;have ev:=blk_frozen ab.out 1)|((with_reducible refine gate_callee (f:=15) rfl ?_);refine goesL_ (some 41) rfl rfl Tryz.func15 Z0 rfl #[.int .i64 70,.agg #[.int .i64 af,.slice al ae.length am],.agg #[.int .i64 ah,.slice ao ag.length ap]] rfl J0 ?_;(with_reducible refine(bits_Holds.calls k 70 af (fun k_=>((((P0_1_ k_∨P1_1_ k_)∨w.heap.size≤k_)∧k_≠ac)∧k_≠ad)) _ _ ae ah (fun k_=>((((P0_1_ k_∨P1_1_ k_)∨w.heap.size≤k_)∧k_≠ac)∧k_≠ad)) _ _ ag aA bz _ ?side1 ?side2 A5.out).mono ?_);(case side1=>exact HO0_1.out);(case side2=>exact HO1_1.out);rintro e w88 ⟨rfl,hb⟩;refine⟨_,rfl,?_⟩;have n0_:=Aside0.mk (Kd.V_below U0 hb);have n1_:=Aside0.mk (Kd.V_below V0 hb);have n2_:=Aside0.mk (blk_below (g:=ac) (o:=.cells #[.int .i64 af,.slice al ae.length am] 28 (0,0)) (by(with_reducible repeat (first|refine blk_drewN ?_ _|refine blk_drew ?_|refine blk_alloc ?_ _));exact aa.out) hb);have n3_:=Aside0.mk (blk_below (g:=ad) (o:=.cells #[.int .i64 ah,.slice ao ag.length ap] 28 (0,0)) (by(with_reducible repeat (first|refine blk_drewN ?_ _|refine blk_drew ?_|refine blk_alloc ?_ _));exact ab.out) hb);have n4_:=Aside0.mk (below_step (by repeat (first|(with_reducible first|exact HB.out|apply below_alloc|apply pw_below_drewN|apply below_drew1|refine below_set ?_ ar.out|refine below_set ?_ ax.out)|exact HB.out)) hb);clear HO0_1;clear HO1_1;clear aa;clear ab;clear HB;have HO0_1:=n0_;have HO1_1:=n1_;have aa:=n2_;have ab:=n3_;have HB:=n4_;clear n0_ n1_ n2_ n3_ n4_;(try clear hb);(try clear hb2);(try clear hk);(try clear hi);have ew:w88.cell? ⟨ac,0,none⟩=some (.int .i64 af):=(blk_cell aa.out 0).trans rfl;have ex:w88.cell? ⟨ac,1,none⟩=some (.slice al ae.length am):=(blk_cell aa.out 1).trans rfl;have ey:=blk_frozen aa.out 0;have ez:=blk_frozen aa.out 1;have eA:w88.cell? ⟨ad,0,none⟩=some (.int .i64 ah):=(blk_cell ab.out 0).trans rfl;have eB:w88.cell? ⟨ad,1,none⟩=some (.slice ao ag.length ap):=(blk_cell ab.out 1).trans rfl;have eC:=blk_frozen ab.out 0;have eD:=blk_frozen ab.out 1)|((with_reducible refine gate_callee (f:=15) rfl ?_);refine goesL_ (some 47) rfl rfl Tryz.func15 Z0 rfl #[.int .i64 71,.agg #[.int .i64 af,.slice al ae.length am],.agg #[.int .i64 ah,.slice ao ag.length ap]] rfl J0 ?_;(with_reducible refine(bits_Holds.calls k 71 af (fun k_=>((((P0_1_ k_∨P1_1_ k_)∨w.heap.size≤k_)∧k_≠ac)∧k_≠ad)) _ _ ae ah (fun k_=>((((P0_1_ k_∨P1_1_ k_)∨w.heap.size≤k_)∧k_≠ac)∧k_≠ad)) _ _ ag aC bA _ ?side1 ?side2 A6.out).mono ?_);(case side1=>exact HO0_1.out);(case side2=>exact HO1_1.out);rintro e w91 ⟨rfl,hb⟩;refine⟨_,rfl,?_⟩;have n0_:=Aside0.mk (Kd.V_below U0 hb);have n1_:=Aside0.mk (Kd.V_below V0 hb);have n2_:=Aside0.mk (blk_below (g:=ac) (o:=.cells #[.int .i64 af,.slice al ae.length am] 28 (0,0)) (by(with_reducible repeat (first|refine blk_drewN ?_ _|refine blk_drew ?_|refine blk_alloc ?_ _));exact aa.out) hb);have n3_:=Aside0.mk (blk_below (g:=ad) (o:=.cells #[.int .i64 ah,.slice ao ag.length ap] 28 (0,0)) (by(with_reducible repeat (first|refine blk_drewN ?_ _|refine blk_drew ?_|refine blk_alloc ?_ _));exact ab.out) hb);have n4_:=Aside0.mk (below_step (by repeat (first|(with_reducible first|exact HB.out|apply below_alloc|apply pw_below_drewN|apply below_drew1|refine below_set ?_ ar.out|refine below_set ?_ ax.out)|exact HB.out)) hb);clear HO0_1;clear HO1_1;clear aa;clear ab;clear HB;have HO0_1:=n0_;have HO1_1:=n1_;have aa:=n2_;have ab:=n3_;have HB:=n4_;clear n0_ n1_ n2_ n3_ n4_;(try clear hb);(try clear hb2);(try clear hk);(try clear hi);have eE:w91.cell? ⟨ac,0,none⟩=some (.int .i64 af):=(blk_cell aa.out 0).trans rfl;have eF:w91.cell? ⟨ac,1,none⟩=some (.slice al ae.length am):=(blk_cell aa.out 1).trans rfl;have eG:=blk_frozen aa.out 0;have eH:=blk_frozen aa.out 1;have eI:w91.cell? ⟨ad,0,none⟩=some (.int .i64 ah):=(blk_cell ab.out 0).trans rfl;have eJ:w91.cell? ⟨ad,1,none⟩=some (.slice ao ag.length ap):=(blk_cell ab.out 1).trans rfl;have eK:=blk_frozen ab.out 0;have eL:=blk_frozen ab.out 1)|((with_reducible refine gate_callee (f:=15) rfl ?_);refine goesL_ (some 53) rfl rfl Tryz.func15 Z0 rfl #[.int .i64 72,.agg #[.int .i64 af,.slice al ae.length am],.agg #[.int .i64 ah,.slice ao ag.length ap]] rfl J0 ?_;(with_reducible refine(bits_Holds.calls k 72 af (fun k_=>((((P0_1_ k_∨P1_1_ k_)∨w.heap.size≤k_)∧k_≠ac)∧k_≠ad)) _ _ ae ah (fun k_=>((((P0_1_ k_∨P1_1_ k_)∨w.heap.size≤k_)∧k_≠ac)∧k_≠ad)) _ _ ag aD aM _ ?side1 ?side2 A7.out).mono ?_);(case side1=>exact HO0_1.out);(case side2=>exact HO1_1.out);rintro e w94 ⟨rfl,hb⟩;refine⟨_,rfl,?_⟩;have n0_:=Aside0.mk (Kd.V_below U0 hb);have n1_:=Aside0.mk (Kd.V_below V0 hb);have n2_:=Aside0.mk (blk_below (g:=ac) (o:=.cells #[.int .i64 af,.slice al ae.length am] 28 (0,0)) (by(with_reducible repeat (first|refine blk_drewN ?_ _|refine blk_drew ?_|refine blk_alloc ?_ _));exact aa.out) hb);have n3_:=Aside0.mk (blk_below (g:=ad) (o:=.cells #[.int .i64 ah,.slice ao ag.length ap] 28 (0,0)) (by(with_reducible repeat (first|refine blk_drewN ?_ _|refine blk_drew ?_|refine blk_alloc ?_ _));exact ab.out) hb);have n4_:=Aside0.mk (below_step (by repeat (first|(with_reducible first|exact HB.out|apply below_alloc|apply pw_below_drewN|apply below_drew1|refine below_set ?_ ar.out|refine below_set ?_ ax.out)|exact HB.out)) hb);clear HO0_1;clear HO1_1;clear aa;clear ab;clear HB;have HO0_1:=n0_;have HO1_1:=n1_;have aa:=n2_;have ab:=n3_;have HB:=n4_;clear n0_ n1_ n2_ n3_ n4_;(try clear hb);(try clear hb2);(try clear hk);(try clear hi);have eM:w94.cell? ⟨ac,0,none⟩=some (.int .i64 af):=(blk_cell aa.out 0).trans rfl;have eN:w94.cell? ⟨ac,1,none⟩=some (.slice al ae.length am):=(blk_cell aa.out 1).trans rfl;have eO:=blk_frozen aa.out 0;have eP:=blk_frozen aa.out 1;have eQ:w94.cell? ⟨ad,0,none⟩=some (.int .i64 ah):=(blk_cell ab.out 0).trans rfl;have eR:w94.cell? ⟨ad,1,none⟩=some (.slice ao ag.length ap):=(blk_cell ab.out 1).trans rfl;have eS:=blk_frozen ab.out 0;have eT:=blk_frozen ab.out 1)|((with_reducible refine gate_callee (f:=15) rfl ?_);refine goesL_ (some 59) rfl rfl Tryz.func15 Z0 rfl #[.int .i64 74,.agg #[.int .i64 af,.slice al ae.length am],.agg #[.int .i64 ah,.slice ao ag.length ap]] rfl J0 ?_;(with_reducible refine(bits_Holds.calls k 74 af (fun k_=>((((P0_1_ k_∨P1_1_ k_)∨w.heap.size≤k_)∧k_≠ac)∧k_≠ad)) _ _ ae ah (fun k_=>((((P0_1_ k_∨P1_1_ k_)∨w.heap.size≤k_)∧k_≠ac)∧k_≠ad)) _ _ ag aG bB _ ?side1 ?side2 A8.out).mono ?_);(case side1=>exact HO0_1.out);(case side2=>exact HO1_1.out);rintro e w97 ⟨rfl,hb⟩;refine⟨_,rfl,?_⟩;have n0_:=Aside0.mk (Kd.V_below U0 hb);have n1_:=Aside0.mk (Kd.V_below V0 hb);have n2_:=Aside0.mk (blk_below (g:=ac) (o:=.cells #[.int .i64 af,.slice al ae.length am] 28 (0,0)) (by(with_reducible repeat (first|refine blk_drewN ?_ _|refine blk_drew ?_|refine blk_alloc ?_ _));exact aa.out) hb);have n3_:=Aside0.mk (blk_below (g:=ad) (o:=.cells #[.int .i64 ah,.slice ao ag.length ap] 28 (0,0)) (by(with_reducible repeat (first|refine blk_drewN ?_ _|refine blk_drew ?_|refine blk_alloc ?_ _));exact ab.out) hb);have n4_:=Aside0.mk (below_step (by repeat (first|(with_reducible first|exact HB.out|apply below_alloc|apply pw_below_drewN|apply below_drew1|refine below_set ?_ ar.out|refine below_set ?_ ax.out)|exact HB.out)) hb);clear HO0_1;clear HO1_1;clear aa;clear ab;clear HB;have HO0_1:=n0_;have HO1_1:=n1_;have aa:=n2_;have ab:=n3_;have HB:=n4_;clear n0_ n1_ n2_ n3_ n4_;(try clear hb);(try clear hb2);(try clear hk);(try clear hi);have eU:w97.cell? ⟨ac,0,none⟩=some (.int .i64 af):=(blk_cell aa.out 0).trans rfl;have eV:w97.cell? ⟨ac,1,none⟩=some (.slice al ae.length am):=(blk_cell aa.out 1).trans rfl;have eW:=blk_frozen aa.out 0;have eX:=blk_frozen aa.out 1;have eY:w97.cell? ⟨ad,0,none⟩=some (.int .i64 ah):=(blk_cell ab.out 0).trans rfl;have eZ:w97.cell? ⟨ad,1,none⟩=some (.slice ao ag.length ap):=(blk_cell ab.out 1).trans rfl;have fa:=blk_frozen ab.out 0;have fb:=blk_frozen ab.out 1)|((with_reducible refine gate_callee (f:=15) rfl ?_);refine goesL_ (some 65) rfl rfl Tryz.func15 Z0 rfl #[.int .i64 73,.agg #[.int .i64 af,.slice al ae.length am],.agg #[.int .i64 ah,.slice ao ag.length ap]] rfl J0 ?_;(with_reducible refine(bits_Holds.calls k 73 af (fun k_=>((((P0_1_ k_∨P1_1_ k_)∨w.heap.size≤k_)∧k_≠ac)∧k_≠ad)) _ _ ae ah (fun k_=>((((P0_1_ k_∨P1_1_ k_)∨w.heap.size≤k_)∧k_≠ac)∧k_≠ad)) _ _ ag aI bC _ ?side1 ?side2 A9.out).mono ?_);(case side1=>exact HO0_1.out);(case side2=>exact HO1_1.out);rintro e w100 ⟨rfl,hb⟩;refine⟨_,rfl,?_⟩;have n0_:=Aside0.mk (Kd.V_below U0 hb);have n1_:=Aside0.mk (Kd.V_below V0 hb);have n2_:=Aside0.mk (blk_below (g:=ac) (o:=.cells #[.int .i64 af,.slice al ae.length am] 28 (0,0)) (by(with_reducible repeat (first|refine blk_drewN ?_ _|refine blk_drew ?_|refine blk_alloc ?_ _));exact aa.out) hb);have n3_:=Aside0.mk (blk_below (g:=ad) (o:=.cells #[.int .i64 ah,.slice ao ag.length ap] 28 (0,0)) (by(with_reducible repeat (first|refine blk_drewN ?_ _|refine blk_drew ?_|refine blk_alloc ?_ _));exact ab.out) hb);have n4_:=Aside0.mk (below_step (by repeat (first|(with_reducible first|exact HB.out|apply below_alloc|apply pw_below_drewN|apply below_drew1|refine below_set ?_ ar.out|refine below_set ?_ ax.out)|exact HB.out)) hb);clear HO0_1;clear HO1_1;clear aa;clear ab;clear HB;have HO0_1:=n0_;have HO1_1:=n1_;have aa:=n2_;have ab:=n3_;have HB:=n4_;clear n0_ n1_ n2_ n3_ n4_;(try clear hb);(try clear hb2);(try clear hk);(try clear hi);have bP:w100.cell? ⟨ac,0,none⟩=some (.int .i64 af):=(blk_cell aa.out 0).trans rfl;have bQ:w100.cell? ⟨ac,1,none⟩=some (.slice al ae.length am):=(blk_cell aa.out 1).trans rfl;have bR:=blk_frozen aa.out 0;have bS:=blk_frozen aa.out 1;have bT:w100.cell? ⟨ad,0,none⟩=some (.int .i64 ah):=(blk_cell ab.out 0).trans rfl;have bU:w100.cell? ⟨ad,1,none⟩=some (.slice ao ag.length ap):=(blk_cell ab.out 1).trans rfl;have bV:=blk_frozen ab.out 0;have bW:=blk_frozen ab.out 1)|((with_reducible refine gate_callee (f:=15) rfl ?_);refine goesL_ (some 71) rfl rfl Tryz.func15 Z0 rfl #[.int .i64 75,.agg #[.int .i64 af,.slice al ae.length am],.agg #[.int .i64 ah,.slice ao ag.length ap]] rfl J0 ?_;(with_reducible refine(bits_Holds.calls k 75 af (fun k_=>((((P0_1_ k_∨P1_1_ k_)∨w.heap.size≤k_)∧k_≠ac)∧k_≠ad)) _ _ ae ah (fun k_=>((((P0_1_ k_∨P1_1_ k_)∨w.heap.size≤k_)∧k_≠ac)∧k_≠ad)) _ _ ag aJ bD _ ?side1 ?side2 A10.out).mono ?_);(case side1=>exact HO0_1.out);(case side2=>exact HO1_1.out);rintro e w103 ⟨rfl,hb⟩;refine⟨_,rfl,?_⟩;have n0_:=Aside0.mk (Kd.V_below U0 hb);have n1_:=Aside0.mk (Kd.V_below V0 hb);have n2_:=Aside0.mk (blk_below (g:=ac) (o:=.cells #[.int .i64 af,.slice al ae.length am] 28 (0,0)) (by(with_reducible repeat (first|refine blk_drewN ?_ _|refine blk_drew ?_|refine blk_alloc ?_ _));exact aa.out) hb);have n3_:=Aside0.mk (blk_below (g:=ad) (o:=.cells #[.int .i64 ah,.slice ao ag.length ap] 28 (0,0)) (by(with_reducible repeat (first|refine blk_drewN ?_ _|refine blk_drew ?_|refine blk_alloc ?_ _));exact ab.out) hb);have n4_:=Aside0.mk (below_step (by repeat (first|(with_reducible first|exact HB.out|apply below_alloc|apply pw_below_drewN|apply below_drew1|refine below_set ?_ ar.out|refine below_set ?_ ax.out)|exact HB.out)) hb);clear HO0_1;clear HO1_1;clear aa;clear ab;clear HB;have HO0_1:=n0_;have HO1_1:=n1_;have aa:=n2_;have ab:=n3_;have HB:=n4_;clear n0_ n1_ n2_ n3_ n4_;(try clear hb);(try clear hb2);(try clear hk);(try clear hi);have bX:w103.cell? ⟨ac,0,none⟩=some (.int .i64 af):=(blk_cell aa.out 0).trans rfl;have bY:w103.cell? ⟨ac,1,none⟩=some (.slice al ae.length am):=(blk_cell aa.out 1).trans rfl;have bZ:=blk_frozen aa.out 0;have ca:=blk_frozen aa.out 1;have cb:w103.cell? ⟨ad,0,none⟩=some (.int .i64 ah):=(blk_cell ab.out 0).trans rfl;have cc:w103.cell? ⟨ad,1,none⟩=some (.slice ao ag.length ap):=(blk_cell ab.out 1).trans rfl;have cd:=blk_frozen ab.out 0;have ce:=blk_frozen ab.out 1)|((with_reducible refine gate_dst (N:=77) rfl ?_);refine Kd.N_lit k28 _ 28 ?hg (N':=77) ?hd (xs:=([(⟨af,ae⟩:S28),(⟨ah,ag⟩:S28)]:List (S28))) (inner:=[.int .i64 af,.slice al ae.length am,.int .i64 ah,.slice ao ag.length ap]) (ok:=(fun k_=>((P0_1_ k_∨P1_1_ k_)∨w.heap.size≤k_)∧k_≠ac∧k_≠ad)) (okp:=(fun k_=>((P0_1_ k_∨P1_1_ k_)∨w.heap.size≤k_)∧k_≠ac∧k_≠ad)) ?hr ?hp (fun _ hk=>hk) ((show ∀k_,w103.heap.size≤k_→(fun k_=>((P0_1_ k_∨P1_1_ k_)∨w.heap.size≤k_)∧k_≠ac∧k_≠ad) k_ from fun k_ hk=>⟨(.inr (Nat.le_trans (below_size (by repeat (first|(with_reducible first|exact HB.out|apply below_alloc|apply pw_below_drewN|apply below_drew1|refine below_set ?_ ar.out|refine below_set ?_ ax.out)|exact HB.out))) hk)),Kd.freshB (g:=ac) (o:=.cells #[.int .i64 af,.slice al ae.length am] 28 (0,0)) (by(with_reducible repeat (first|refine blk_drewN ?_ _|refine blk_drew ?_|refine blk_alloc ?_ _));exact aa.out) k_ hk,Kd.freshB (g:=ad) (o:=.cells #[.int .i64 ah,.slice ao ag.length ap] 28 (0,0)) (by(with_reducible repeat (first|refine blk_drewN ?_ _|refine blk_drew ?_|refine blk_alloc ?_ _));exact ab.out) k_ hk⟩) _ (Nat.le_refl _)) (Below.refl _ _) (Nat.le_refl _) F1 ?_;(case hd=>rfl);(case hg=>rfl);(case hr=>first|(go_simp;done)|(go_simp;rfl));(case hp=>exact(Reps.c2 (show Kd.FK k28 _ _ (⟨af,ae⟩:S28) [.int .i64 af,.slice al ae.length am] from(k28_mkF _ _ (⟨af,ae⟩:S28) (Kd.V_reads' (Kd.V_mono (ok':=(fun k_=>((P0_1_ k_∨P1_1_ k_)∨w.heap.size≤k_)∧k_≠ac∧k_≠ad)) (HO0_1.out) (fun k_ hk=>⟨hk.1.1,⟨hk.1.2,hk.2⟩⟩))).2.1 (Kd.V_F (Kd.V_mono (ok':=(fun k_=>((P0_1_ k_∨P1_1_ k_)∨w.heap.size≤k_)∧k_≠ac∧k_≠ad)) (HO0_1.out) (fun k_ hk=>⟨hk.1.1,⟨hk.1.2,hk.2⟩⟩))))) (Reps.c2 (show Kd.FK k28 _ _ (⟨ah,ag⟩:S28) [.int .i64 ah,.slice ao ag.length ap] from(k28_mkF _ _ (⟨ah,ag⟩:S28) (Kd.V_reads' (Kd.V_mono (ok':=(fun k_=>((P0_1_ k_∨P1_1_ k_)∨w.heap.size≤k_)∧k_≠ac∧k_≠ad)) (HO1_1.out) (fun k_ hk=>⟨hk.1.1,⟨hk.1.2,hk.2⟩⟩))).2.1 (Kd.V_F (Kd.V_mono (ok':=(fun k_=>((P0_1_ k_∨P1_1_ k_)∨w.heap.size≤k_)∧k_≠ac∧k_≠ad)) (HO1_1.out) (fun k_ hk=>⟨hk.1.1,⟨hk.1.2,hk.2⟩⟩))))) (Reps.none _ _))));intro bG w106 bb hb hg_ hnew_;clear hg_ hnew_;(first|rw[←be.out]at bb|(simp only[Int.reduceToNat]at bb;rw[←be.out]at bb));have n0_:=Aside0.mk (Kd.V_elder' U0 (Kd.N_base bb) hb);have n1_:=Aside0.mk (Kd.V_elder' V0 (Kd.N_base bb) hb);have n2_:=Aside0.mk (Kd.N_lower bb (below_size (by repeat (first|(with_reducible first|exact HB.out|apply below_alloc|apply pw_below_drewN|apply below_drew1|refine below_set ?_ ar.out|refine below_set ?_ ax.out)|exact HB.out))));have n3_:=Aside0.mk (blk_below (g:=ac) (o:=.cells #[.int .i64 af,.slice al ae.length am] 28 (0,0)) (by(with_reducible repeat (first|refine blk_drewN ?_ _|refine blk_drew ?_|refine blk_alloc ?_ _));exact aa.out) hb);have n4_:=Aside0.mk (blk_below (g:=ad) (o:=.cells #[.int .i64 ah,.slice ao ag.length ap] 28 (0,0)) (by(with_reducible repeat (first|refine blk_drewN ?_ _|refine blk_drew ?_|refine blk_alloc ?_ _));exact ab.out) hb);have n5_:=Aside0.mk (below_step (by repeat (first|(with_reducible first|exact HB.out|apply below_alloc|apply pw_below_drewN|apply below_drew1|refine below_set ?_ ar.out|refine below_set ?_ ax.out)|exact HB.out)) hb);clear HO0_1;clear HO1_1;clear aa;clear ab;clear HB;have HO0_1:=n0_;have HO1_1:=n1_;have HO1106:=n2_;have aa:=n3_;have ab:=n4_;have HB:=n5_;clear n0_ n1_ n2_ n3_ n4_ n5_;clear hb bb;obtain⟨bJ,bK,bL⟩:=Kd.N_slice HO1106.out;subst bL)|((with_reducible refine gate_callee (f:=11) rfl ?_);refine goesL_ (some 78) rfl rfl Tryz.func11 Z0 rfl #[.int .i64 51,.slice none 0 0,.slice bJ aT.length bK] rfl J0 ?_;(refine(bits_Apply.calls k 51 _ _ ([]:List Int) _ _ aT aL aE aV _ ?side1 ?side2 ?side3 ?side4 A11.out).mono ?_);(case side1=>exact Kd.C_nil _ _);(case side2=>exact Nat.le_refl _);(case side3=>repeat (first|exact(Kd.N_reads' HO1106.out).2.2|(with_reducible refine Kd.C_alloc ?_ _)|(with_reducible refine Kd.C_drewN ?_ _)|(with_reducible refine Kd.C_drew ?_)));(case side4=>exact(Kd.N_reads' HO1106.out).2.1);rintro e w109 ⟨bH,rfl,ho0,hb⟩;refine⟨_,rfl,?_⟩;have n0_:=Aside0.mk (Kd.V_elder' U0 (Kd.R_base ho0) hb);have n1_:=Aside0.mk (Kd.V_elder' V0 (Kd.R_base ho0) hb);have n2_:=Aside0.mk (Kd.N_elder' Y2 (Kd.R_base ho0) hb);have n3_:=Aside0.mk (Kd.R_lower (Kd.R_newM (M:=fun k_=>(w.heap.size≤k_)) (Kd.R_mono (ok':=fun k_=>True) ho0 (fun _ hk_=>trivial)) (below_size (by repeat (first|(with_reducible first|exact HB.out|apply below_alloc|apply pw_below_drewN|apply below_drew1|refine below_set ?_ ar.out|refine below_set ?_ ax.out)|exact HB.out))) (fun k_ h_=>h_)) (below_size (by repeat (first|(with_reducible first|exact HB.out|apply below_alloc|apply pw_below_drewN|apply below_drew1|refine below_set ?_ ar.out|refine below_set ?_ ax.out)|exact HB.out))));have n4_:=Aside0.mk (blk_below (g:=ac) (o:=.cells #[.int .i64 af,.slice al ae.length am] 28 (0,0)) (by(with_reducible repeat (first|refine blk_drewN ?_ _|refine blk_drew ?_|refine blk_alloc ?_ _));exact aa.out) hb);have n5_:=Aside0.mk (blk_below (g:=ad) (o:=.cells #[.int .i64 ah,.slice ao ag.length ap] 28 (0,0)) (by(with_reducible repeat (first|refine blk_drewN ?_ _|refine blk_drew ?_|refine blk_alloc ?_ _));exact ab.out) hb);have n6_:=Aside0.mk (below_step (by repeat (first|(with_reducible first|exact HB.out|apply below_alloc|apply pw_below_drewN|apply below_drew1|refine below_set ?_ ar.out|refine below_set ?_ ax.out)|exact HB.out)) hb);clear HO0_1;clear HO1_1;clear HO1106;clear aa;clear ab;clear HB;have HO0_1:=n0_;have HO1_1:=n1_;have HO1106:=n2_;have HO1110:=n3_;have aa:=n4_;have ab:=n5_;have HB:=n6_;clear n0_ n1_ n2_ n3_ n4_ n5_ n6_;(try clear hb);(try clear hb2);(try clear hk);(try clear hi);(try clear ho0))|((with_reducible refine gate_dst (N:=21) rfl ?_);refine box_event ?hg (N:=21) ?hd (cs:=#[.int .i64 0,.slice none 0 0]) (t:=28) ?hr ?_;(case hd=>rfl);(case hg=>rfl);(case hr=>first|(go_simp;done)|(go_simp;rfl));intro ak hg w110 hbox hb;have n0_:=Aside0.mk (Kd.V_below (Kd.V_elderB U0 ak (Nat.le_of_eq hg.symm)) hb);have n1_:=Aside0.mk (Kd.V_below (Kd.V_elderB V0 ak (Nat.le_of_eq hg.symm)) hb);have n2_:=Aside0.mk (Kd.N_below (Kd.N_elderB Y2 ak (Nat.le_of_eq hg.symm)) hb);have n3_:=Aside0.mk (Kd.R_below F3 hb);have n4_:=Aside0.mk (blk_below (g:=ac) (o:=.cells #[.int .i64 af,.slice al ae.length am] 28 (0,0)) (by(with_reducible repeat (first|refine blk_drewN ?_ _|refine blk_drew ?_|refine blk_alloc ?_ _));exact aa.out) hb);have n5_:=Aside0.mk (blk_below (g:=ad) (o:=.cells #[.int .i64 ah,.slice ao ag.length ap] 28 (0,0)) (by(with_reducible repeat (first|refine blk_drewN ?_ _|refine blk_drew ?_|refine blk_alloc ?_ _));exact ab.out) hb);have n6_:=Aside0.mk (below_step (by repeat (first|(with_reducible first|exact HB.out|apply below_alloc|apply pw_below_drewN|apply below_drew1|refine below_set ?_ ar.out|refine below_set ?_ ax.out)|exact HB.out)) hb);have n7_:=Aside0.mk (hbox);have n8_:=Aside0.mk ((by rw[hg];exact(below_size (by repeat (first|(with_reducible first|exact HB.out|apply below_alloc|apply pw_below_drewN|apply below_drew1|refine below_set ?_ ar.out|refine below_set ?_ ax.out)|exact HB.out))):w.heap.size≤ak));have n9_:=Aside0.mk ((by rw[hg];exact(below_size (by repeat (first|(with_reducible first|exact HB.out|apply below_alloc|apply pw_below_drewN|apply below_drew1|refine below_set ?_ ar.out|refine below_set ?_ ax.out)|exact HB.out))):w.heap.size≤ak));have n10_:=Aside0.mk ((by rw[hg];exact Nat.ne_of_lt (blk_lt (g:=ac) (o:=.cells #[.int .i64 af,.slice al ae.length am] 28 (0,0)) (by(with_reducible repeat (first|refine blk_drewN ?_ _|refine blk_drew ?_|refine blk_alloc ?_ _));exact aa.out)):ac≠ak));have n11_:=Aside0.mk ((by rw[hg];exact Nat.ne_of_gt (blk_lt (g:=ac) (o:=.cells #[.int .i64 af,.slice al ae.length am] 28 (0,0)) (by(with_reducible repeat (first|refine blk_drewN ?_ _|refine blk_drew ?_|refine blk_alloc ?_ _));exact aa.out)):ak≠ac));have n12_:=Aside0.mk ((by rw[hg];exact Nat.ne_of_lt (blk_lt (g:=ad) (o:=.cells #[.int .i64 ah,.slice ao ag.length ap] 28 (0,0)) (by(with_reducible repeat (first|refine blk_drewN ?_ _|refine blk_drew ?_|refine blk_alloc ?_ _));exact ab.out)):ad≠ak));have n13_:=Aside0.mk ((by rw[hg];exact Nat.ne_of_gt (blk_lt (g:=ad) (o:=.cells #[.int .i64 ah,.slice ao ag.length ap] 28 (0,0)) (by(with_reducible repeat (first|refine blk_drewN ?_ _|refine blk_drew ?_|refine blk_alloc ?_ _));exact ab.out)):ak≠ad));clear HO0_1;clear HO1_1;clear HO1106;clear HO1110;clear aa;clear ab;clear HB;have HO0_1:=n0_;have HO1_1:=n1_;have HO1106:=n2_;have HO1110:=n3_;have aa:=n4_;have ab:=n5_;have HB:=n6_;have aF:=n7_;have bu:=n8_;have aU:=n9_;have aN:=n10_;have aY:=n11_;have aO:=n12_;have aZ:=n13_;clear n0_ n1_ n2_ n3_ n4_ n5_ n6_ n7_ n8_ n9_ n10_ n11_ n12_ n13_;clear hb hbox hg;have fc:=aY.out;have fd:=aN.out;have fe:=aZ.out;have ff:=aO.out;have cf:w110.cell? ⟨ak,0,none⟩=some (.int .i64 0):=(blk_cell aF.out 0).trans rfl;have cg:w110.cell? ⟨ak,1,none⟩=some (.slice none 0 0):=(blk_cell aF.out 1).trans rfl;have ch:=blk_frozen aF.out 0;have ci:=blk_frozen aF.out 1;obtain⟨bg,bh,bM⟩:=Kd.R_slice HO1110.out;subst bM)|(go_at_call 14;(with_reducible refine(tribunallaw09_alive.calls k az _ A76.out).mono ?_);rintro e w115 ⟨rfl,hb⟩;have n0_:=Aside0.mk (Kd.V_below (by(with_reducible repeat (first|apply Kd.V_alloc|apply Kd.V_drewN|apply Kd.V_drew));exact(Kd.V_mono (Kd.V_far (p:=⟨ak,1,none⟩) (Kd.V_far (p:=⟨ak,0,none⟩) (Kd.V_mono HO0_1.out (fun k_ hk=>(⟨hk,hk.2⟩:_∧k_≠ak))) (fun _ hk=>hk.2) (.int .i64 aL)) (fun _ hk=>hk.2) (.slice bg aE.length bh)) (fun _ h_=>h_.1))) hb);have n1_:=Aside0.mk (Kd.V_below (by(with_reducible repeat (first|apply Kd.V_alloc|apply Kd.V_drewN|apply Kd.V_drew));exact(Kd.V_mono (Kd.V_far (p:=⟨ak,1,none⟩) (Kd.V_far (p:=⟨ak,0,none⟩) (Kd.V_mono HO1_1.out (fun k_ hk=>(⟨hk,hk.2⟩:_∧k_≠ak))) (fun _ hk=>hk.2) (.int .i64 aL)) (fun _ hk=>hk.2) (.slice bg aE.length bh)) (fun _ h_=>h_.1))) hb);have n2_:=Aside0.mk (Kd.N_below (by(with_reducible repeat (first|apply Kd.N_alloc|apply Kd.N_drewN|apply Kd.N_drew));exact(Kd.N_mono (Kd.N_far (p:=⟨ak,1,none⟩) (Kd.N_far (p:=⟨ak,0,none⟩) (Kd.N_mono HO1106.out (fun k_ hk=>(⟨hk,hk.2⟩:_∧k_≠ak))) (fun _ hk=>hk.2) (.int .i64 aL)) (fun _ hk=>hk.2) (.slice bg aE.length bh)) (fun _ h_=>h_.1))) hb);have n3_:=Aside0.mk (Kd.R_below (by(with_reducible repeat (first|apply Kd.R_alloc|apply Kd.R_drewN|apply Kd.R_drew));exact(Kd.R_mono (Kd.R_far (p:=⟨ak,1,none⟩) (Kd.R_far (p:=⟨ak,0,none⟩) (Kd.R_types HO1110.out aF.out X0) (fun _ hk=>hk.2) (.int .i64 aL)) (fun _ hk=>hk.2) (.slice bg aE.length bh)) (fun _ h_=>h_.1))) hb);have n4_:=Aside0.mk (blk_below (g:=ac) (o:=.cells #[.int .i64 af,.slice al ae.length am] 28 (0,0)) (by(with_reducible repeat (first|refine blk_drewN ?_ _|refine blk_drew ?_|refine blk_alloc ?_ _));refine blk_far ?_ aN.out _;(with_reducible repeat (first|refine blk_drewN ?_ _|refine blk_drew ?_|refine blk_alloc ?_ _));refine blk_far ?_ aN.out _;(with_reducible repeat (first|refine blk_drewN ?_ _|refine blk_drew ?_|refine blk_alloc ?_ _));exact aa.out) hb);have n5_:=Aside0.mk (blk_below (g:=ad) (o:=.cells #[.int .i64 ah,.slice ao ag.length ap] 28 (0,0)) (by(with_reducible repeat (first|refine blk_drewN ?_ _|refine blk_drew ?_|refine blk_alloc ?_ _));refine blk_far ?_ aO.out _;(with_reducible repeat (first|refine blk_drewN ?_ _|refine blk_drew ?_|refine blk_alloc ?_ _));refine blk_far ?_ aO.out _;(with_reducible repeat (first|refine blk_drewN ?_ _|refine blk_drew ?_|refine blk_alloc ?_ _));exact ab.out) hb);have n6_:=Aside0.mk (blk_below (g:=ak) (o:=.cells #[.int .i64 aL,.slice bg aE.length bh] 28 (0,0)) (by(with_reducible repeat (first|refine blk_drewN ?_ _|refine blk_drew ?_|refine blk_alloc ?_ _));refine blk_put (cs:=#[.int .i64 aL,.slice none 0 0]) ?_ 1 _ rfl;(with_reducible repeat (first|refine blk_drewN ?_ _|refine blk_drew ?_|refine blk_alloc ?_ _));refine blk_put (cs:=#[.int .i64 0,.slice none 0 0]) ?_ 0 _ rfl;(with_reducible repeat (first|refine blk_drewN ?_ _|refine blk_drew ?_|refine blk_alloc ?_ _));exact aF.out) hb);have n7_:=Aside0.mk (below_step (by repeat (first|(with_reducible first|exact HB.out|apply below_alloc|apply pw_below_drewN|apply below_drew1|refine below_set ?_ ar.out|refine below_set ?_ ax.out|refine below_set ?_ aU.out)|exact HB.out)) hb);clear HO0_1;clear HO1_1;clear HO1106;clear HO1110;clear aa;clear ab;clear aF;clear HB;have HO0_1:=n0_;have HO1_1:=n1_;have HO1106:=n2_;have HO1110:=n3_;have aa:=n4_;have ab:=n5_;have aF:=n6_;have HB:=n7_;clear n0_ n1_ n2_ n3_ n4_ n5_ n6_ n7_;(try clear hb);(try clear hb2);(try clear hk);(try clear hi)))
   go_ret
   exact⟨D4,by repeat (first|(with_reducible first|exact HB.out|apply below_alloc|apply pw_below_drewN|apply below_drew1|refine below_set ?_ ar.out|refine below_set ?_ ax.out|refine below_set ?_ aU.out)|exact HB.out)⟩
 rw[if_neg c26]at H
 exact absurd H F1
end Go.Proofs.YtncomlmhagaajaaGreat.PBo
namespace Go.Proofs.YtncomlmhagaajaaGreat.PBo
open Go.Proofs.YtncomlmhagaajaaGreat.Mine Go.RowKit Go.Proofs.YtncomlmhagaajaaGreatW.PrintWords Go.Proofs.YtncomlmhagaajaaGreatW.PrintLast Go.Proofs.YtncomlmhagaajaaGreatW.PrintMore
theorem tribunallaw09_BitsOrders.callsC (k:Nat) (a1:Int) (A1:Option Addr) (c1:Nat) (l1:List Int) (a2:Int) (A2:Option Addr) (c2:Nat) (l2:List Int) (r:Bool) (w:World) (hr1:Kd.C (Kd.int .u64) w A1 l1.length l1) (hc1:l1.length≤c1) (hr2:Kd.C (Kd.int .u64) w A2 l2.length l2) (hc2:l2.length≤c2) (h:tribunallaw09_BitsOrders.f k a1 l1 a2 l2=some r) :
  Calls Tryz.prog 7 #[.agg #[.int .i64 a1,.slice A1 l1.length c1],.agg #[.int .i64 a2,.slice A2 l2.length c2]] w fun e w'=>e=.returned (.bool r)∧Below w.heap.size w w':=by
 have K:=Kp.refl w
 replace K:=K.parV (Kd.V_mono (ok':=fun _=>True) (Kd.V_mk (e:=48) (base:=0) hc1 (Kd.C_F (Kd.heap_int .u64) hr1)) (fun _ h=>trivial))
 replace K:=K.parV (Kd.V_mono (ok':=fun _=>True) (Kd.V_mk (e:=48) (base:=0) hc2 (Kd.C_F (Kd.heap_int .u64) hr2)) (fun _ h=>trivial))
 exact tribunallaw09_BitsOrders.calls k a1 (fun _=>True) A1 c1 l1 a2 (fun _=>True) A2 c2 l2 r w (K.hand 0 rfl (fun _ _=>trivial)) (K.hand 1 rfl (fun _ _=>trivial)) h
end Go.Proofs.YtncomlmhagaajaaGreat.PBo
namespace Go.Proofs.YtncomlmhagaajaaGreat.PBo
open Go.RowKit Go.Proofs.YtncomlmhagaajaaGreatW.PrintWords Go.Proofs.YtncomlmhagaajaaGreatW.PrintLast Go.Proofs.YtncomlmhagaajaaGreatW.PrintMore
open Go.Proofs.YtncomlmhagaajaaGreat.Mine
attribute [local go_sem] max2_int min2_int max_two min_two max_three min_three max_four min_four
def whole_Sign.f (k:Nat) (a0_0:Bool) (l0_1:List Int):Option (Int):=(whole_of.f k a0_0 l0_1).bind fun bt308=>((whole_number_cmp.f k bt308.1 bt308.2 ([]:List Int) false).bind fun t312=>(some t312))
def tribunalref09_bit.f (a0_0:Int) (l0_1:List Int) (a1:Int):Option (Bool):=if(wrap64 (Int.tdiv a1 64))<(l0_1.length:Int) then(if 0≤(wrap64 (Int.tdiv a1 64)) then(if 0≤(IntKind.u64.wrap (Int.tmod a1 64)) then(some ((Go.bits .and .u64 (shr .u64 (rd l0_1 (wrap64 (Int.tdiv a1 64))) (IntKind.u64.wrap (Int.tmod a1 64))) 1)==1)) else(none)) else(none)) else(some false)
def tribunalref09_Holds.j0:Nat→Int→Int→Option (Bool×Int)
 | 0,_,_=>none
 | k+1,x0,x9=>if x0=68 then(some (decide (x9<0),0)) else(if x0=69 then(some (decide (x9≤0),0)) else(if x0=70 then(some (decide (x9>0),0)) else(some (decide (x9≥0),0))))
end Go.Proofs.YtncomlmhagaajaaGreat.PBo
namespace Go.Proofs.YtncomlmhagaajaaGreat.Big
def val (B:Int):List Int→Int
 | []=>0
 | x::xs=>x+B*val B xs
def Dig (B:Int) (l:List Int):Prop:=∀x∈l,0≤x∧x<B
def Top:List Int→Prop
 | []=>True
 | [x]=>x≠0
 | _::y::l=>Top (y::l)
theorem Dig.nil {B:Int}:Dig B []:=fun _ h=>by cases h
theorem Dig.cons {B x:Int} {l:List Int}:Dig B (x::l)↔(0≤x∧x<B)∧Dig B l:=by
 simp[Dig]
theorem Dig.append {B:Int} {a b:List Int}:Dig B (a++b)↔Dig B a∧Dig B b:=by
 simp only[Dig,List.mem_append]
 exact⟨fun h=>⟨fun x hx=>h x (.inl hx),fun x hx=>h x (.inr hx)⟩,fun h x hx=>hx.elim (h.1 x) (h.2 x)⟩
theorem Dig.take {B:Int} {a:List Int} (h:Dig B a) (n:Nat):Dig B (a.take n):=fun x hx=>h x (List.mem_of_mem_take hx)
theorem Dig.drop {B:Int} {a:List Int} (h:Dig B a) (n:Nat):Dig B (a.drop n):=fun x hx=>h x (List.mem_of_mem_drop hx)
theorem Dig.set {B:Int} {a:List Int} (h:Dig B a) (n:Nat) {v:Int} (hv:0≤v∧v<B):Dig B (a.set n v):=fun x hx=>by
 rcases List.mem_or_eq_of_mem_set hx with hx|rfl
 ·exact h x hx
 exact hv
theorem Dig.rep {B:Int} (hB:0<B) (n:Nat):Dig B (List.replicate n 0):=fun x hx=>by
 have:=List.eq_of_mem_replicate hx;omega
theorem Dig.get {B:Int} {a:List Int} (h:Dig B a) (i:Nat) (hi:i<a.length):0≤a[i]∧a[i]<B:=h _ (List.getElem_mem hi)
theorem val_append (B:Int) (a b:List Int):val B (a++b)=val B a+B^a.length*val B b:=by
 induction a with
 | nil=>simp[val]
 | cons x a ih=>simp only[List.cons_append,val,ih,List.length_cons,Int.pow_succ];grind
theorem val_replicate (B:Int) (n:Nat):val B (List.replicate n 0)=0:=by
 induction n with
 | zero=>rfl
 | succ n ih=>simp[List.replicate_succ,val,ih]
theorem pow_pos {B:Int} (hB:0<B) (n:Nat):0<B^n:=Int.pow_pos hB
theorem val_nonneg {B:Int} (hB:0<B) {l:List Int} (h:Dig B l):0≤val B l:=by
 induction l with
 | nil=>simp[val]
 | cons x l ih=>
  rw[Dig.cons]at h
  have:=ih h.2
  have:=Int.mul_nonneg (Int.le_of_lt hB) this
  simp only[val];omega
theorem val_lt {B:Int} (hB:0<B) {l:List Int} (h:Dig B l):val B l<B^l.length:=by
 induction l with
 | nil=>simp[val]
 | cons x l ih=>
  rw[Dig.cons]at h
  have h1:=ih h.2
  have h2:B*(val B l+1)≤B*B^l.length:=Int.mul_le_mul_of_nonneg_left Y0 Y0
  simp only[val,List.length_cons,Int.pow_succ]
  grind
theorem val_take_succ (B:Int) (l:List Int) (i:Nat) (hi:i<l.length):val B (l.take (i+1))=val B (l.take i)+l[i]*B^i:=by
 rw[List.take_succ_eq_append_getElem hi,val_append]
 simp[val,List.length_take,Nat.min_eq_left (Nat.le_of_lt hi),Int.mul_comm]
theorem val_split (B:Int) (l:List Int) (i:Nat) (hi:i≤l.length):val B l=val B (l.take i)+B^i*val B (l.drop i):=by
 have:=val_append B (l.take i) (l.drop i)
 rw[List.take_append_drop,List.length_take,Nat.min_eq_left hi]at this
 exact this
theorem val_snoc (B:Int) (l:List Int) (x:Int):val B (l++[x])=val B l+x*B^l.length:=by
 rw[val_append];simp[val,Int.mul_comm]
theorem Top.cons {x y:Int} {l:List Int}:Top (x::y::l)↔Top (y::l):=Iff.rfl
theorem Top_iff (l:List Int):Top l↔∀h:l≠[],l.getLast h≠0:=by
 induction l with
 | nil=>simp[Top]
 | cons x l ih=>
  cases l with
  | nil=>simp[Top]
  | cons y l=>rw[Top.cons,ih];exact⟨fun h _=>by simpa using h F1,fun h _=>by simpa using h F1⟩
theorem Top_snoc {l:List Int} {x:Int} (h:x≠0):Top (l++[x]):=by
 rw[Top_iff];intro _;simpa using h
theorem uniq {B:Int} (hB:1<B):∀ {a b:List Int},Dig B a→Dig B b→Top a→Top b→val B a=val B b→a=b:=by
 have key:∀ {b:List Int},Dig B b→Top b→val B b=0→b=[]:=by
  intro b
  induction b with
  | nil=>intros;rfl
  | cons y b ih=>
   intro hd ht hv
   rw[Dig.cons]at hd
   simp only[val]at hv
   have h0:=val_nonneg Y0 hd.2
   have h1:=Int.mul_nonneg (show 0≤B by omega) h0
   have h2:B*val B b=0:=by omega
   have h3:val B b=0:=by rcases Int.mul_eq_zero.1 h2 with h|h<;>omega
   cases b with
   | nil=>exfalso;simp only[Top]at ht;omega
   | cons z b=>have:=ih hd.2 ht h3;cases this
 intro a
 induction a with
 | nil=>
  intro b _ hb _ tb h
  exact(key hb tb h.symm).symm
 | cons x a ih=>
  intro b ha hb ta tb h
  cases b with
  | nil=>exact key ha ta h
  | cons y b=>
   rw[Dig.cons]at ha hb
   simp only[val]at h
   have e1:x=y:=by
    have h1:(x+B*val B a)%B=x:=by rw[Int.add_mul_emod_self_left];exact Int.emod_eq_of_lt ha.1.1 ha.1.2
    have h2:(y+B*val B b)%B=y:=by rw[Int.add_mul_emod_self_left];exact Int.emod_eq_of_lt hb.1.1 hb.1.2
    rw[←h1,←h2,h]
   subst e1
   have e2:val B a=val B b:=by
    have:B*val B a=B*val B b:=by omega
    exact Int.eq_of_mul_eq_mul_left Y0 this
   have ta':Top a:=by cases a with|nil=>trivial|cons=>exact ta
   have tb':Top b:=by cases b with|nil=>trivial|cons=>exact tb
   rw[ih ha.2 hb.2 ta' tb' e2]
theorem low {B:Int} (hB:0<B) {l:List Int} (h:Dig B l) (t:Top l) (hne:l≠[]):B^(l.length-1)≤val B l:=by
 induction l with
 | nil=>exact absurd rfl hne
 | cons x l ih=>
  rw[Dig.cons]at h
  cases l with
  | nil=>simp only[Top]at t;simp[val];omega
  | cons y l=>
   have:=ih h.2 t F1
   simp only[List.length_cons,Nat.add_sub_cancel]at this ⊢
   simp only[val]at this ⊢
   have:=Int.mul_le_mul_of_nonneg_left this (Int.le_of_lt hB)
   rw[Int.pow_succ,Int.mul_comm]
   omega
structure Rep (B:Int) (n:Int) (l:List Int):Prop where
 dig:Dig B l
 top:Top l
 val:val B l=n
theorem Rep.uniq {B n:Int} (hB:1<B) {a b:List Int} (ha:Rep B n a) (hb:Rep B n b):a=b:=
 Big.uniq hB ha.dig hb.dig ha.top hb.top (ha.val.trans hb.val.symm)
theorem Rep.nonneg {B n:Int} (hB:0<B) {a:List Int} (ha:Rep B n a):0≤n:=ha.val ▸ val_nonneg hB ha.dig
theorem Rep.lt {B n:Int} (hB:0<B) {a:List Int} (ha:Rep B n a):n<B^a.length:=ha.val ▸ val_lt hB ha.dig
theorem Rep.low {B n:Int} (hB:0<B) {a:List Int} (ha:Rep B n a) (h:a≠[]):B^(a.length-1)≤n:=ha.val ▸ Big.low hB ha.dig ha.top h
theorem Rep.nil_iff {B n:Int} (hB:0<B) {a:List Int} (ha:Rep B n a):a=[]↔n=0:=by
 constructor
 ·rintro rfl;exact ha.val.symm
 intro h
 rcases Classical.em (a=[]) with e|e
 ·exact e
 have:=ha.low hB e;have:=pow_pos hB (a.length-1);omega
end Go.Proofs.YtncomlmhagaajaaGreat.Big
namespace Go.Proofs.YtncomlmhagaajaaGreat.PurePBo
open Go.RowKit Go.Proofs.YtncomlmhagaajaaGreatW.PrintWords Go.Proofs.YtncomlmhagaajaaGreatW.PrintLast Go.Proofs.YtncomlmhagaajaaGreatW.PrintMore Go.Proofs.YtncomlmhagaajaaGreat.PBo Go.Proofs.YtncomlmhagaajaaGreat Go.Proofs.YtncomlmhagaajaaGreat.Mine
open Big
def Ev {α:Type} (f:Nat→Option α) (r:α):Prop:=∃K,∀k,K≤k→f k=some r
theorem up {α:Type} {f:Nat→Option α} (mono:∀k,LeO (f k) (f (k+1))) {k:Nat} {r:α} (h:f k=some r):∀j,k≤j→f j=some r:=by
 intro j hj
 induction hj with
 | refl=>exact h
 | step _ ih=>exact mono _ _ ih
theorem Ev.of {α:Type} {f:Nat→Option α} (mono:∀k,LeO (f k) (f (k+1))) {k:Nat} {r:α} (h:f k=some r):Ev f r:=⟨k,up mono h⟩
theorem Ev.bind {α β:Type} {f:Nat→Option α} {a:α} (h:Ev f a) {g:Nat→α→Option β} {b:β} (hg:Ev (fun k=>g k a) b):Ev (fun k=>(f k).bind (g k)) b:=by
 obtain⟨K1,h1⟩:=h
 obtain⟨K2,h2⟩:=hg
 exact⟨max K1 K2,fun k hk=>by show(f k).bind (g k)=_;rw[h1 k Y0];exact h2 k Y0⟩
theorem rd_nat (l:List Int) (n:Nat) (h:n<l.length):rd l (n:Int)=l[n]:=by
 simp[rd,List.getD_eq_getElem?_getD,List.getElem?_eq_getElem h]
theorem w64 (n:Int) (h:-9223372036854775808≤n∧n≤9223372036854775807):wrap64 n=n:=IntWalk.wrap64_in n h
theorem whole_trimmed_l0 (l:List Int) (hl:l.length<9223372036854775807):∀(n k:Nat),n≤l.length→n<k→∃m,m≤n∧whole_trimmed.l0 k l (n:Int)=some (l.take m)∧Top (l.take m)∧∀B,val B (l.take m)=val B (l.take n):=by
 intro n
 induction n with
 | zero=>
  intro k _ hk
  obtain⟨k,rfl⟩:∃j,k=j+1:=⟨k-1,Y0⟩
  refine⟨0,Nat.le_refl _,?_,by simp[Top],fun _=>rfl⟩
  simp only[whole_trimmed.l0]
  rw[if_neg Y0,if_pos Y0,if_pos Y0]
  rfl
 | succ n ih=>
  intro k hn hk
  obtain⟨k,rfl⟩:∃j,k=j+1:=⟨k-1,Y0⟩
  have hw:wrap64 (((n+1:Nat):Int)-1)=(n:Int):=by rw[w64 _ Y0];omega
  simp only[whole_trimmed.l0]
  rw[hw,if_pos Y0,if_pos Y0,if_pos Y0,rd_nat l n Y0]
  by_cases h0:l[n]=0
  ·obtain⟨m,hm,he,ht,hv⟩:=ih k Y0 Y0
   refine⟨m,Y0,by rw[if_pos h0];exact he,ht,fun B=>?_⟩
   rw[hv B,val_take_succ B l n Y0,h0];simp
  refine⟨n+1,Nat.le_refl _,?_,?_,fun _=>rfl⟩
  ·rw[if_neg h0,if_pos Y0,if_pos Y0];congr 1
  rw[List.take_succ_eq_append_getElem Y0];exact Top_snoc h0
theorem whole_trimmed_ev {B:Int} {l:List Int} (hl:l.length<9223372036854775807) (hd:Dig B l):∃r,Ev (fun k=>whole_trimmed.f k l) r∧Dig B r∧Top r∧val B r=val B l:=by
 obtain⟨m,hm,he,ht,hv⟩:=whole_trimmed_l0 l hl l.length (l.length+1) (Nat.le_refl _) Y0
 refine⟨l.take m,Ev.of (fun k=>whole_trimmed.mono l k) he,hd.take m,ht,?_⟩
 rw[hv B,List.take_length]
end Go.Proofs.YtncomlmhagaajaaGreat.PurePBo
namespace Go.Proofs.YtncomlmhagaajaaGreat.PurePBo
open Go.RowKit Go.Proofs.YtncomlmhagaajaaGreatW.PrintWords Go.Proofs.YtncomlmhagaajaaGreatW.PrintLast Go.Proofs.YtncomlmhagaajaaGreatW.PrintMore Go.Proofs.YtncomlmhagaajaaGreat.PBo Go.Proofs.YtncomlmhagaajaaGreat Go.Proofs.YtncomlmhagaajaaGreat.Mine Big
theorem of_ev (s:Bool) (l:List Int) (hl:l.length≤1048576) (hd:Dig 18446744073709551616 l) :
  ∃r,Ev (fun k=>whole_of.f k s l) (r,s&&decide (0<r.length))∧r.length≤l.length∧Dig 18446744073709551616 r∧Top r∧val 18446744073709551616 r=val 18446744073709551616 l:=by
 obtain⟨m,hm,he,ht,hv⟩:=whole_trimmed_l0 l Y0 l.length (l.length+1) (Nat.le_refl _) Y0
 obtain⟨K,hr⟩:=Ev.of (fun k=>whole_trimmed.mono l k) he
 refine⟨l.take m,⟨K,fun k hk=>?_⟩,by rw[List.length_take];omega,hd.take m,ht,by rw[hv,List.take_length]⟩
 simp only[whole_of.f,hr k hk,Option.bind_some]
 cases s
 ·simp
 simp only[whole_amount_null.f,Option.bind_some,if_true]
 congr 2
 cases h:l.take m<;>simp<;>omega
theorem getD_dig {B:Int} (hB:0<B) {D:List Int} (hd:Dig B D) (j:Nat):0≤D.getD j 0∧D.getD j 0<B:=by
 by_cases h:j<D.length
 ·rw[List.getD_eq_getElem?_getD,List.getElem?_eq_getElem h];exact hd.get j h
 rw[List.getD_eq_getElem?_getD,List.getElem?_eq_none Y0];simp;exact hB
end Go.Proofs.YtncomlmhagaajaaGreat.PurePBo
namespace Go.Proofs.YtncomlmhagaajaaGreat.Big
structure Num (B n:Int) (s:Bool) (l:List Int):Prop where
 rep:Rep B (n.natAbs:Int) l
 sign:s=decide (n<0)
theorem Rep.pos_iff {B n:Int} (hB:0<B) {a:List Int} (ha:Rep B n a):0<a.length↔0<n:=by
 have h:=ha.nil_iff hB
 have h1:=ha.nonneg hB
 rw[List.length_pos_iff,Ne,h]
 omega
theorem Num.of_rep {B v:Int} (hB:0<B) {l:List Int} (h:Rep B v l) (b:Bool):Num B (if b then -v else v) (b&&decide (0<l.length)) l:=by
 have h1:=h.nonneg hB
 have h2:=h.pos_iff hB
 refine⟨?_,?_⟩
 ·have e:(((if b then -v else v):Int).natAbs:Int)=v:=by cases b<;>simp<;>omega
  rw[e];exact h
 cases b
 ·simp;omega
 simp only[Bool.true_and,if_true]
 by_cases h3:0<l.length
 ·have:=h2.1 h3;simp[h3];omega
 have:¬0<v:=fun g=>h3 (h2.2 g)
 simp[h3];omega
theorem Num.of_rep' {B v:Int} (hB:0<B) {l:List Int} (h:Rep B v l) (b:Bool) {n:Int} (hn:n=if b then -v else v):Num B n (b&&decide (0<l.length)) l:=hn ▸ Num.of_rep hB h b
def sg (n:Int):Int:=if n<0 then -1 else if n=0 then 0 else 1
theorem sg_neg {n:Int} (h:n<0):sg n = -1:=by unfold sg;rw[if_pos h]
theorem sg_zero {n:Int} (h:n=0):sg n=0:=by unfold sg;rw[if_neg Y0,if_pos h]
theorem sg_pos {n:Int} (h:0<n):sg n=1:=by unfold sg;rw[if_neg Y0,if_neg Y0]
theorem lt_of_len {B:Int} (hB:0<B) {a b:List Int} (da:Dig B a) (db:Dig B b) (tb:Top b) (h:a.length<b.length):val B a<val B b:=by
 have h1:=val_lt hB da
 have hne:b≠[]:=by intro e;rw[e]at h;simp at h
 have h2:=low hB db tb hne
 have h4:B^a.length≤B^(b.length-1):=by
  obtain⟨c,hc⟩:=Nat.exists_eq_add_of_le (show a.length≤b.length-1 by omega)
  rw[hc,Int.pow_add]
  have g1:=pow_pos hB a.length
  have g2:=pow_pos hB c
  have:=Int.mul_le_mul_of_nonneg_left (show(1:Int)≤B^c by omega) (Int.le_of_lt g1)
  omega
 omega
theorem lt_of_top {B:Int} (hB:0<B) {a b:List Int} (da:Dig B a) (db:Dig B b) (n:Nat) (ha:n<a.length) (hb:n<b.length) (h:a[n]<b[n]):val B (a.take (n+1))<val B (b.take (n+1)):=by
 rw[val_take_succ B a n ha,val_take_succ B b n hb]
 have h1:=val_lt hB (da.take n)
 rw[List.length_take,Nat.min_eq_left Y0]at h1
 have h2:=val_nonneg hB (db.take n)
 have h3:=Int.mul_le_mul_of_nonneg_right (show a[n]+1≤b[n] by omega) (Int.le_of_lt (pow_pos hB n))
 rw[Int.add_mul,Int.one_mul]at h3
 omega
theorem add_step (V c c' s x y X Y P B:Int) (hs:c'*B+s=x+y+c) (hv:V+c*P=X+Y):(V+s*P)+c'*(P*B)=(X+x*P)+(Y+y*P):=by
 have h1:c'*(P*B)+s*P=(c'*B+s)*P:=by rw[Int.add_mul,Int.mul_assoc,Int.mul_comm P B]
 rw[hs,Int.add_mul,Int.add_mul]at h1
 omega
theorem sub_step (V c c' s x y X Y P B:Int) (hs:s-c'*B=x-y-c) (hv:V-c*P=X-Y):(V+s*P)-c'*(P*B)=(X+x*P)-(Y+y*P):=by
 have h1:s*P-c'*(P*B)=(s-c'*B)*P:=by rw[Int.sub_mul,Int.mul_assoc,Int.mul_comm P B]
 rw[hs,Int.sub_mul,Int.sub_mul]at h1
 omega
theorem val_take_getD (B:Int) (l:List Int) (i:Nat):val B (l.take (i+1))=val B (l.take i)+l.getD i 0*B^i:=by
 by_cases h:i<l.length
 ·rw[val_take_succ B l i h,List.getD_eq_getElem?_getD,List.getElem?_eq_getElem h,Option.getD_some]
 rw[List.take_of_length_le Y0,List.take_of_length_le Y0,List.getD_eq_getElem?_getD,List.getElem?_eq_none Y0,Option.getD_none,Int.zero_mul,Int.add_zero]
end Go.Proofs.YtncomlmhagaajaaGreat.Big
namespace Go.Proofs.YtncomlmhagaajaaGreat.PurePBo
open Go.RowKit Go.Proofs.YtncomlmhagaajaaGreatW.PrintWords Go.Proofs.YtncomlmhagaajaaGreatW.PrintLast Go.Proofs.YtncomlmhagaajaaGreatW.PrintMore Go.Proofs.YtncomlmhagaajaaGreat.PBo Go.Proofs.YtncomlmhagaajaaGreat Go.Proofs.YtncomlmhagaajaaGreat.Mine Big
theorem pow_le_pow {B:Int} (hB:0<B) {m n:Nat} (h:m≤n):B^m≤B^n:=by
 obtain⟨c,rfl⟩:=Nat.exists_eq_add_of_le h
 rw[Int.pow_add]
 have g1:=pow_pos hB m
 have g2:=pow_pos hB c
 have:=Int.mul_le_mul_of_nonneg_left (show(1:Int)≤B^c by omega) (Int.le_of_lt g1)
 omega
theorem rep_len {B v:Int} (hB:0<B) {r:List Int} (h:Rep B v r) {m:Nat} (hv:v<B^m):r.length≤m:=by
 refine Classical.byContradiction fun hc=>?_
 have hne:r≠[]:=by intro e;rw[e]at hc;simp at hc
 have h1:=h.low hB hne
 have h2:=pow_le_pow hB (show m≤r.length-1 by omega)
 omega
theorem signed_eq (m:List Int) (b:Bool):whole_signed.f m b=some (m,b&&decide (0<m.length)):=by
 cases b
 ·simp[whole_signed.f]
 simp only[whole_signed.f,whole_amount_null.f,Option.bind_some,if_true]
 congr 2
 cases m<;>simp<;>omega
theorem dig_of_wf {l:List Int} (h:∀z∈l,(Lit.int .u64 z).wf=true):Dig 18446744073709551616 l:=fun z hz=>by
 have:=Go.bounds_u64 (h z hz)
 omega
theorem whole_amount_cmp_l0 (a b:List Int) (hl:a.length≤8388608) (hab:a.length=b.length) (da:Dig 18446744073709551616 a) (db:Dig 18446744073709551616 b):∀(n k:Nat) (i:Int),n≤a.length→n<k→i=(n:Int)-1→whole_amount_cmp.l0 k a b i=some (sg (val 18446744073709551616 (a.take n)-val 18446744073709551616 (b.take n))):=by
 intro n
 induction n with
 | zero=>
  intro k i _ hk hi
  obtain⟨k,rfl⟩:∃j,k=j+1:=⟨k-1,Y0⟩
  rw[whole_amount_cmp.l0,if_neg Y0,sg_zero F1]
 | succ n ih=>
  intro k i hn hk hi
  obtain⟨k,rfl⟩:∃j,k=j+1:=⟨k-1,Y0⟩
  have hi':i=(n:Int):=by omega
  subst hi'
  have hna:n<a.length:=by omega
  have hnb:n<b.length:=by omega
  rw[whole_amount_cmp.l0,if_pos Y0,if_pos Y0,if_pos Y0,if_pos Y0,rd_nat a n hna,rd_nat b n hnb]
  rcases Int.lt_trichotomy a[n] b[n] with h|h|h
  ·have:=lt_of_top X0 da db n hna hnb h
   rw[if_neg Y0,if_pos h]
   rw[sg_neg Y0]
  ·rw[if_pos h]
   rw[w64 _ Y0,ih k _ Y0 Y0 rfl,val_take_succ 18446744073709551616 a n hna,val_take_succ 18446744073709551616 b n hnb,h]
   congr 2
   omega
  have:=lt_of_top X0 db da n hnb hna h
  rw[if_neg Y0,if_neg Y0]
  rw[sg_pos Y0]
theorem whole_amount_cmp_ev (a b:List Int) (ha:a.length≤8388608) (hb:b.length≤8388608) (da:Dig 18446744073709551616 a) (db:Dig 18446744073709551616 b) (ta:Top a) (tb:Top b):Ev (fun k=>whole_amount_cmp.f k a b) (sg (val 18446744073709551616 a-val 18446744073709551616 b)):=by
 refine⟨a.length+1,fun k hk=>?_⟩
 show whole_amount_cmp.f k a b=_
 rw[whole_amount_cmp.f]
 rcases Nat.lt_trichotomy a.length b.length with h|h|h
 ·have:=lt_of_len X0 da db tb h
  rw[if_neg Y0,if_pos Y0,sg_neg Y0]
 ·rw[if_pos Y0,w64 _ Y0,whole_amount_cmp_l0 a b ha h da db a.length k _ (Nat.le_refl _) Y0 rfl,List.take_length,h,List.take_length]
 have:=lt_of_len X0 db da ta h
 rw[if_neg Y0,if_neg Y0,sg_pos Y0]
theorem rd_getD (l:List Int) (n:Nat):rd l (n:Int)=l.getD n 0:=by simp[rd]
theorem getD_ge (l:List Int) (n:Nat) (h:l.length≤n):l.getD n 0=0:=by
 rw[List.getD_eq_getElem?_getD,List.getElem?_eq_none h,Option.getD_none]
theorem Add64_eq (x y c:Int) (hx:0≤x) (hy:0≤y) (hc:0≤c∧c≤1):bits_Add64.f x y c=some ((x+y+c)%18446744073709551616,(x+y+c)/18446744073709551616):=by
 rw[bits_Add64.f,if_pos ⟨hx,hy,hc.1,hc.2⟩]
theorem Sub64_eq (x y c:Int) (hx:0≤x) (hy:0≤y∧y<18446744073709551616) (hc:0≤c∧c≤1):bits_Sub64.f x y c=some ((x-y-c)%18446744073709551616,if x<y+c then 1 else 0):=by
 rw[bits_Sub64.f,if_pos ⟨hx,hy.1,hy.2,hc.1,hc.2⟩]
theorem plus_step (k:Nat) (a b out:List Int) (c:Int) (i:Nat) (hi:i<a.length) (hl:a.length≤8388608) (ho:out.length=i) (da:Dig 18446744073709551616 a) (db:Dig 18446744073709551616 b) (hc:0≤c∧c≤1) :
  whole_amount_plus.l0 (k+1) a b out c (a.length:Int) (i:Int)=whole_amount_plus.l0 k a b (out++[(a.getD i 0+b.getD i 0+c)%18446744073709551616]) ((a.getD i 0+b.getD i 0+c)/18446744073709551616) (a.length:Int) ((i+1:Nat):Int):=by
 have ga:=getD_dig X0 da i
 have gb:=getD_dig X0 db i
 rw[whole_amount_plus.l0,if_pos Y0,rd_getD,rd_getD,show wrap64 ((i:Int)+1)=((i+1:Nat):Int) from by rw[w64 _ Y0];omega]
 by_cases h:(i:Int)<(b.length:Int)
 ·rw[if_pos h,if_pos Y0,if_pos Y0,Add64_eq _ _ _ ga.1 gb.1 hc,Option.bind_some,if_pos Y0]
 rw[if_neg h,if_pos Y0,if_pos Y0,Add64_eq _ _ _ ga.1 X0 hc,Option.bind_some,if_pos Y0,getD_ge b i Y0]
theorem plus_l0 (a b:List Int) (hl:a.length≤8388608) (hb:b.length≤a.length) (da:Dig 18446744073709551616 a) (db:Dig 18446744073709551616 b):∀(n i:Nat) (out:List Int) (c:Int),i+n=a.length→out.length=i→Dig 18446744073709551616 out→0≤c∧c≤1→val 18446744073709551616 out+c*18446744073709551616^i=val 18446744073709551616 (a.take i)+val 18446744073709551616 (b.take i) →
  ∃r,Ev (fun k=>whole_amount_plus.l0 k a b out c (a.length:Int) (i:Int)) r∧Rep 18446744073709551616 (val 18446744073709551616 a+val 18446744073709551616 b) r:=by
 intro n
 induction n with
 | zero=>
  intro i out c hi ho hd hc hv
  obtain⟨r,⟨K,hr⟩,h1,h2,h3⟩:=whole_trimmed_ev (B:=18446744073709551616) (l:=out++[c]) (by simp;omega) (Dig.append.2 ⟨hd,by rw[Dig.cons];exact⟨⟨hc.1,Y0⟩,Dig.nil⟩⟩)
  refine⟨r,⟨K+1,fun k hk=>?_⟩,h1,h2,?_⟩
  ·obtain⟨k,rfl⟩:∃j,k=j+1:=⟨k-1,Y0⟩
   have hk':whole_trimmed.f k (out++[c])=some r:=hr k Y0
   show whole_amount_plus.l0 (k+1) a b out c (a.length:Int) (i:Int)=some r
   rw[whole_amount_plus.l0,if_neg Y0,if_pos Y0,hk',Option.bind_some]
  rw[h3,val_snoc,ho,hv,List.take_of_length_le Y0,List.take_of_length_le Y0]
 | succ n ih=>
  intro i out c hi ho hd hc hv
  have hil:i<a.length:=by omega
  have ga:=getD_dig X0 da i
  have gb:=getD_dig X0 db i
  obtain⟨r,⟨K,hr⟩,hq⟩:=ih (i+1) (out++[(a.getD i 0+b.getD i 0+c)%18446744073709551616]) ((a.getD i 0+b.getD i 0+c)/18446744073709551616) Y0 (by simp;omega)
   (Dig.append.2 ⟨hd,by rw[Dig.cons];exact⟨Y0,Dig.nil⟩⟩) Y0
   (by rw[val_snoc,ho,val_take_getD,val_take_getD,Int.pow_succ];exact add_step _ c _ _ _ _ _ _ _ _ Y0 hv)
  refine⟨r,⟨K+1,fun k hk=>?_⟩,hq⟩
  obtain⟨k,rfl⟩:∃j,k=j+1:=⟨k-1,Y0⟩
  show whole_amount_plus.l0 (k+1) a b out c (a.length:Int) (i:Int)=some r
  rw[plus_step k a b out c i hil hl ho da db hc]
  exact hr k Y0
theorem plus_j0 (a b:List Int) (hl:a.length≤8388600) (hb:b.length≤a.length) (da:Dig 18446744073709551616 a) (db:Dig 18446744073709551616 b) :
  ∃r,Ev (fun k=>whole_amount_plus.j0 k a b) r∧Rep 18446744073709551616 (val 18446744073709551616 a+val 18446744073709551616 b) r:=by
 obtain⟨r,⟨K,hr⟩,hq⟩:=plus_l0 a b Y0 hb da db a.length 0 [] 0 Y0 rfl Dig.nil Y0 (by simp[val])
 refine⟨r,⟨K+1,fun k hk=>?_⟩,hq⟩
 obtain⟨k,rfl⟩:∃j,k=j+1:=⟨k-1,Y0⟩
 show whole_amount_plus.j0 (k+1) a b=some r
 have hw:wrap64 ((a.length:Int)+1)=((a.length+1:Nat):Int):=by rw[w64 _ Y0];omega
 rw[whole_amount_plus.j0,hw,if_pos Y0,Int.toNat_natCast,if_pos Y0]
 exact hr k Y0
theorem plus_ev (a b:List Int) (ha:a.length≤8388600) (hb:b.length≤8388600) (da:Dig 18446744073709551616 a) (db:Dig 18446744073709551616 b) :
  ∃r,Ev (fun k=>whole_amount_plus.f k a b) r∧Rep 18446744073709551616 (val 18446744073709551616 a+val 18446744073709551616 b) r:=by
 by_cases h:a.length<b.length
 ·obtain⟨r,⟨K,hr⟩,hq⟩:=plus_j0 b a hb Y0 db da
  refine⟨r,⟨K,fun k hk=>?_⟩,by rw[Int.add_comm];exact hq⟩
  show whole_amount_plus.f k a b=some r
  rw[whole_amount_plus.f,if_pos Y0]
  exact hr k hk
 obtain⟨r,⟨K,hr⟩,hq⟩:=plus_j0 a b ha Y0 da db
 refine⟨r,⟨K,fun k hk=>?_⟩,hq⟩
 show whole_amount_plus.f k a b=some r
 rw[whole_amount_plus.f,if_neg Y0]
 exact hr k hk
theorem num_len {B n m u:Int} (hB:2≤B) {s t x:Bool} {a b r:List Int} (ha:Num B n s a) (hb:Num B m t b) (hr:Num B u x r) (hu:(u.natAbs:Int)≤n.natAbs+m.natAbs) {L:Nat} (la:a.length≤L) (lb:b.length≤L):r.length≤L+1:=by
 refine rep_len Y0 hr.rep ?_
 have h1:=ha.rep.lt Y0
 have h2:=hb.rep.lt Y0
 have h3:=pow_le_pow (B:=B) Y0 la
 have h4:=pow_le_pow (B:=B) Y0 lb
 rw[Int.pow_succ]
 have h5:=pow_pos (B:=B) Y0 L
 have h6:=Int.mul_le_mul_of_nonneg_left hB (Int.le_of_lt h5)
 omega
theorem cmp_num {n m:Int} {s t:Bool} {a b:List Int} (ha:Num 18446744073709551616 n s a) (hb:Num 18446744073709551616 m t b) (la:a.length≤8388608) (lb:b.length≤8388608):Ev (fun k=>whole_number_cmp.f k a s b t) (sg (n-m)):=by
 obtain⟨K1,h1⟩:=whole_amount_cmp_ev a b la lb ha.rep.dig hb.rep.dig ha.rep.top hb.rep.top
 obtain⟨K2,h2⟩:=whole_amount_cmp_ev b a lb la hb.rep.dig ha.rep.dig hb.rep.top ha.rep.top
 rw[ha.rep.val,hb.rep.val]at h1 h2
 refine⟨max K1 K2+2,fun k hk=>?_⟩
 obtain⟨k,rfl⟩:∃j,k=j+2:=⟨k-2,Y0⟩
 have g1:whole_amount_cmp.f k a b=_:=h1 k Y0
 have g2:whole_amount_cmp.f k b a=_:=h2 k Y0
 have e1:=ha.sign
 have e2:=hb.sign
 show whole_number_cmp.f (k+1+1) a s b t=_
 rw[whole_number_cmp.f]
 cases s with
 | true=>
  have hn:n<0:=of_decide_eq_true e1.symm
  cases t with
  | true=>
   have hm:m<0:=of_decide_eq_true e2.symm
   rw[if_pos rfl,whole_number_cmp.j0,if_neg X0,if_pos rfl,whole_number_cmp.j1,if_neg X0,if_pos rfl,g2,Option.bind_some]
   congr 2;omega
  | false=>
   have hm:¬m<0:=of_decide_eq_false e2.symm
   rw[if_pos rfl,whole_number_cmp.j0,if_pos X0,sg_neg Y0]
 | false=>
  have hn:¬n<0:=of_decide_eq_false e1.symm
  cases t with
  | true=>
   have hm:m<0:=of_decide_eq_true e2.symm
   rw[if_neg X0,whole_number_cmp.j0,if_neg X0,if_neg X0,whole_number_cmp.j1,if_pos rfl,sg_pos Y0]
  | false=>
   have hm:¬m<0:=of_decide_eq_false e2.symm
   rw[if_neg X0,whole_number_cmp.j0,if_neg X0,if_neg X0,whole_number_cmp.j1,if_neg X0,if_neg X0,g1,Option.bind_some]
   congr 2;omega
theorem sg_ge {n:Int}:sg n≥0↔0≤n:=by unfold sg;split<;>(try split)<;>omega
theorem len_of_le {B:Int} (hB:0<B) {a b:List Int} (da:Dig B a) (db:Dig B b) (tb:Top b) (h:val B b≤val B a):b.length≤a.length:=by
 refine Classical.byContradiction fun hc=>?_
 have:=lt_of_len hB da db tb Y0
 omega
theorem minus_step (k:Nat) (a b out:List Int) (c:Int) (i:Nat) (hi:i<a.length) (hl:a.length≤8388608) (ho:out.length=i) (da:Dig 18446744073709551616 a) (db:Dig 18446744073709551616 b) (hc:0≤c∧c≤1) :
  whole_amount_minus.l0 (k+1) a b out c (a.length:Int) (i:Int)=whole_amount_minus.l0 k a b (out++[(a.getD i 0-b.getD i 0-c)%18446744073709551616]) (if a.getD i 0<b.getD i 0+c then 1 else 0) (a.length:Int) ((i+1:Nat):Int):=by
 have ga:=getD_dig X0 da i
 have gb:=getD_dig X0 db i
 rw[whole_amount_minus.l0,if_pos Y0,rd_getD,rd_getD,show wrap64 ((i:Int)+1)=((i+1:Nat):Int) from by rw[w64 _ Y0];omega]
 by_cases h:(i:Int)<(b.length:Int)
 ·rw[if_pos h,if_pos Y0,if_pos Y0,Sub64_eq _ _ _ ga.1 gb hc,Option.bind_some,if_pos Y0]
 rw[if_neg h,if_pos Y0,if_pos Y0,Sub64_eq _ _ _ ga.1 X0 hc,Option.bind_some,if_pos Y0,getD_ge b i Y0]
theorem borrow_none {V c P X Y:Int} (hV:0≤V∧V<P) (hc:0≤c∧c≤1) (hle:Y≤X) (h:V-c*P=X-Y):V=X-Y:=by
 have:c=0∨c=1:=by omega
 rcases this with h1|h1
 ·rw[h1]at h;omega
 rw[h1]at h;omega
theorem minus_l0 (a b:List Int) (hl:a.length≤8388608) (hb:b.length≤a.length) (hle:val 18446744073709551616 b≤val 18446744073709551616 a) (da:Dig 18446744073709551616 a) (db:Dig 18446744073709551616 b):∀(n i:Nat) (out:List Int) (c:Int),i+n=a.length→out.length=i→Dig 18446744073709551616 out→0≤c∧c≤1→val 18446744073709551616 out-c*18446744073709551616^i=val 18446744073709551616 (a.take i)-val 18446744073709551616 (b.take i) →
  ∃r,Ev (fun k=>whole_amount_minus.l0 k a b out c (a.length:Int) (i:Int)) r∧Rep 18446744073709551616 (val 18446744073709551616 a-val 18446744073709551616 b) r:=by
 intro n
 induction n with
 | zero=>
  intro i out c hi ho hd hc hv
  obtain⟨r,⟨K,hr⟩,h1,h2,h3⟩:=whole_trimmed_ev (B:=18446744073709551616) (l:=out) Y0 hd
  refine⟨r,⟨K+1,fun k hk=>?_⟩,h1,h2,?_⟩
  ·obtain⟨k,rfl⟩:∃j,k=j+1:=⟨k-1,Y0⟩
   have hk':whole_trimmed.f k out=some r:=hr k Y0
   show whole_amount_minus.l0 (k+1) a b out c (a.length:Int) (i:Int)=some r
   rw[whole_amount_minus.l0,if_neg Y0,hk',Option.bind_some]
  rw[h3]
  rw[List.take_of_length_le Y0,List.take_of_length_le Y0]at hv
  have g1:=val_lt (B:=18446744073709551616) X0 hd
  have g2:=val_nonneg (B:=18446744073709551616) X0 hd
  rw[ho]at g1
  exact borrow_none ⟨g2,g1⟩ hc hle hv
 | succ n ih=>
  intro i out c hi ho hd hc hv
  have hil:i<a.length:=by omega
  have ga:=getD_dig X0 da i
  have gb:=getD_dig X0 db i
  obtain⟨r,⟨K,hr⟩,hq⟩:=ih (i+1) (out++[(a.getD i 0-b.getD i 0-c)%18446744073709551616]) (if a.getD i 0<b.getD i 0+c then 1 else 0) Y0 (by simp;omega)
   (Dig.append.2 ⟨hd,by rw[Dig.cons];exact⟨Y0,Dig.nil⟩⟩) (by split<;>omega)
   (by rw[val_snoc,ho,val_take_getD,val_take_getD,Int.pow_succ];exact sub_step _ c _ _ _ _ _ _ _ _ (by split<;>omega) hv)
  refine⟨r,⟨K+1,fun k hk=>?_⟩,hq⟩
  obtain⟨k,rfl⟩:∃j,k=j+1:=⟨k-1,Y0⟩
  show whole_amount_minus.l0 (k+1) a b out c (a.length:Int) (i:Int)=some r
  rw[minus_step k a b out c i hil hl ho da db hc]
  exact hr k Y0
theorem minus_ev (a b:List Int) (ha:a.length≤8388608) (hb:b.length≤a.length) (hle:val 18446744073709551616 b≤val 18446744073709551616 a) (da:Dig 18446744073709551616 a) (db:Dig 18446744073709551616 b) :
  ∃r,Ev (fun k=>whole_amount_minus.f k a b) r∧Rep 18446744073709551616 (val 18446744073709551616 a-val 18446744073709551616 b) r:=by
 obtain⟨r,⟨K,hr⟩,hq⟩:=minus_l0 a b ha hb hle da db a.length 0 [] 0 Y0 rfl Dig.nil Y0 (by simp[val])
 refine⟨r,⟨K,fun k hk=>?_⟩,hq⟩
 show whole_amount_minus.f k a b=some r
 rw[whole_amount_minus.f,if_pos Y0,Int.toNat_natCast,if_pos Y0]
 exact hr k hk
theorem plus_num {n m:Int} {s t:Bool} {a b:List Int} (ha:Num 18446744073709551616 n s a) (hb:Num 18446744073709551616 m t b) (la:a.length≤8388600) (lb:b.length≤8388600) :
  ∃u r,Ev (fun k=>whole_number_plus.f k a s b t) (r,u)∧Num 18446744073709551616 (n+m) u r:=by
 have e1:=ha.sign
 have e2:=hb.sign
 by_cases hst:s=t
 ·obtain⟨r,⟨K,hr⟩,hR⟩:=plus_ev a b la lb ha.rep.dig hb.rep.dig
  rw[ha.rep.val,hb.rep.val]at hR
  refine⟨_,r,⟨K,fun k hk=>?_⟩,Num.of_rep' X0 hR s (by subst hst;cases s<;>simp at e1 e2 ⊢<;>omega)⟩
  have g:whole_amount_plus.f k a b=some r:=hr k hk
  show whole_number_plus.f k a s b t=_
  rw[whole_number_plus.f,if_pos (by rw[hst];exact beq_self_eq_true t),g,Option.bind_some,signed_eq,Option.bind_some]
 obtain⟨K1,h1⟩:=whole_amount_cmp_ev a b Y0 Y0 ha.rep.dig hb.rep.dig ha.rep.top hb.rep.top
 have hne:¬(s==t)=true:=by intro h;exact hst (eq_of_beq h)
 by_cases hle:val 18446744073709551616 b≤val 18446744073709551616 a
 ·obtain⟨r,⟨K,hr⟩,hR⟩:=minus_ev a b Y0 (len_of_le X0 ha.rep.dig hb.rep.dig hb.rep.top hle) hle ha.rep.dig hb.rep.dig
  have hle':=hle
  rw[ha.rep.val,hb.rep.val]at hR hle'
  refine⟨_,r,⟨max K K1,fun k hk=>?_⟩,Num.of_rep' X0 hR s (by cases s<;>cases t<;>simp at hst e1 e2 ⊢<;>omega)⟩
  have g:whole_amount_minus.f k a b=some r:=hr k Y0
  have g1:whole_amount_cmp.f k a b=_:=h1 k Y0
  show whole_number_plus.f k a s b t=_
  rw[whole_number_plus.f,if_neg hne,g1,Option.bind_some,if_pos (sg_ge.2 Y0),g,Option.bind_some,signed_eq,Option.bind_some]
 have aa:val 18446744073709551616 a≤val 18446744073709551616 b:=by omega
 obtain⟨r,⟨K,hr⟩,hR⟩:=minus_ev b a Y0 (len_of_le X0 hb.rep.dig ha.rep.dig ha.rep.top aa) aa hb.rep.dig ha.rep.dig
 have hle':=aa
 rw[ha.rep.val,hb.rep.val]at hR hle'
 refine⟨_,r,⟨max K K1,fun k hk=>?_⟩,Num.of_rep' X0 hR t (by cases s<;>cases t<;>simp at hst e1 e2 ⊢<;>omega)⟩
 have g:whole_amount_minus.f k b a=some r:=hr k Y0
 have g1:whole_amount_cmp.f k a b=_:=h1 k Y0
 show whole_number_plus.f k a s b t=_
 rw[whole_number_plus.f,if_neg hne,g1,Option.bind_some,if_neg (fun x=>hle (by have:=sg_ge.1 x;omega)),g,Option.bind_some,signed_eq,Option.bind_some]
theorem opposite_num {n:Int} {s:Bool} {a:List Int} (ha:Num 18446744073709551616 n s a):∃u,whole_number_opposite.f a s=some (a,u)∧Num 18446744073709551616 (-n) u a:=by
 have e1:=ha.sign
 refine⟨_,?_,Num.of_rep' X0 ha.rep (!s) (by cases s<;>simp at e1 ⊢<;>omega)⟩
 rw[whole_number_opposite.f,signed_eq,Option.bind_some]
theorem minus_num {n m:Int} {s t:Bool} {a b:List Int} (ha:Num 18446744073709551616 n s a) (hb:Num 18446744073709551616 m t b) (la:a.length≤8388600) (lb:b.length≤8388600) :
  ∃u r,Ev (fun k=>whole_number_minus.f k a s b t) (r,u)∧Num 18446744073709551616 (n-m) u r:=by
 obtain⟨v,hv,hb'⟩:=opposite_num hb
 obtain⟨u,r,⟨K,hr⟩,hR⟩:=plus_num ha hb' la lb
 refine⟨u,r,⟨K,fun k hk=>?_⟩,by rw[Int.sub_eq_add_neg];exact hR⟩
 have g:whole_number_plus.f k a s b v=_:=hr k hk
 show whole_number_minus.f k a s b t=_
 rw[whole_number_minus.f,hv,Option.bind_some,g,Option.bind_some]
theorem getD_set_ne (l:List Int) (i t:Nat) (v:Int) (h:i≠t):(l.set i v).getD t 0=l.getD t 0:=by
 simp[List.getD_eq_getElem?_getD,List.getElem?_set_ne h]
structure Half (y yn1 yn0 u d q r:Int):Prop where
 hy:y=yn1*4294967296+yn0
 y1:2147483648≤yn1∧yn1<4294967296
 y0:0≤yn0∧yn0<4294967296
 hu:0≤u∧u<y
 hd:0≤d∧d<4294967296
 hq:0≤q∧q≤4294967297
 hr:0≤r∧r<4294967296
 hqr:u=q*yn1+r
 top:u*4294967296+d<(q+1)*y
theorem Half.below {y yn1 yn0 u d q r:Int} (h:Half y yn1 yn0 u d q r):u*4294967296+d<4294967296*y:=by
 have:=h.hu;have:=h.hd;omega
def AN (L:Nat) (n:Int) (s:Bool) (l:List Int):Prop:=∃a s1,Ev (fun k=>whole_of.f k s l) (a,s1)∧Num 18446744073709551616 n s1 a∧a.length≤L
theorem of_num' {n:Int} {s:Bool} {r:List Int} (h:Num 18446744073709551616 n s r) (hl:r.length≤1048576):Ev (fun k=>whole_of.f k s r) (r,s):=by
 obtain⟨q,hq,_,h1,h2,h3⟩:=of_ev s r hl h.rep.dig
 have e:q=r:=h.rep.uniq X0 ⟨h1,h2,h3.trans h.rep.val⟩ |>.symm
 subst e
 have e1:=h.sign
 have e2:=h.rep.pos_iff X0
 have es:(s&&decide (0<q.length))=s:=by
  cases s
  ·rfl
  have hn:n<0:=of_decide_eq_true e1.symm
  have:=e2.2 Y0
  simp[this]
 rw[es]at hq
 exact hq
theorem AN.of {L:Nat} {n:Int} {s:Bool} {r:List Int} (h:Num 18446744073709551616 n s r) (hl:r.length≤L) (hL:L≤1048576):AN L n s r:=⟨r,s,of_num' h Y0,h,hl⟩
theorem AN.up {L L':Nat} {n:Int} {s:Bool} {l:List Int} (h:AN L n s l) (hL:L≤L'):AN L' n s l:=by
 obtain⟨a,s1,h1,h2,h3⟩:=h
 exact⟨a,s1,h1,h2,Y0⟩
theorem told_ok (s:Bool) {l:List Int} (h:l.length≤4096):whole_number_told.f l s=some (s,l,0):=by
 simp only[whole_number_told.f,whole_number_long.f,Option.bind_some]
 rw[if_neg (by simp;omega),whole_number_out.f,api_Nat_uint64.f,if_pos Y0,Option.bind_some,Option.bind_some]
theorem out_ok (s:Bool) {l:List Int} (h:l.length≤1048576):whole_number_out.f l s=some (s,l):=by
 rw[whole_number_out.f,api_Nat_uint64.f,if_pos Y0,Option.bind_some]
section
variable {L L':Nat} {n m:Int} {s t:Bool} {l p:List Int}
theorem AN.add (h:AN L n s l) (g:AN L' m t p) (hL:L≤4000) (hL':L'≤4000):∃u q,Ev (fun k=>whole_Add.f k s l t p) (u,q,0)∧Num 18446744073709551616 (n+m) u q∧q.length≤max L L'+1:=by
 obtain⟨a,s1,⟨K1,e1⟩,N1,l1⟩:=h
 obtain⟨b,s2,⟨K2,e2⟩,N2,l2⟩:=g
 obtain⟨u,r,⟨K3,e3⟩,N3⟩:=plus_num N1 N2 Y0 Y0
 have hr:=num_len X0 N1 N2 N3 Y0 (L:=max L L') Y0 Y0
 refine⟨u,r,⟨K1+K2+K3,fun k hk=>?_⟩,N3,hr⟩
 have g1:whole_of.f k s l=_:=e1 k Y0
 have g2:whole_of.f k t p=_:=e2 k Y0
 have g3:whole_number_plus.f k a s1 b s2=_:=e3 k Y0
 show whole_Add.f k s l t p=_
 rw[whole_Add.f,g1,Option.bind_some,g2,Option.bind_some,g3,Option.bind_some,told_ok u (show r.length≤4096 by omega),Option.bind_some]
theorem AN.sub (h:AN L n s l) (g:AN L' m t p) (hL:L≤4000) (hL':L'≤4000):∃u q,Ev (fun k=>whole_Sub.f k s l t p) (u,q,0)∧Num 18446744073709551616 (n-m) u q∧q.length≤max L L'+1:=by
 obtain⟨a,s1,⟨K1,e1⟩,N1,l1⟩:=h
 obtain⟨b,s2,⟨K2,e2⟩,N2,l2⟩:=g
 obtain⟨u,r,⟨K3,e3⟩,N3⟩:=minus_num N1 N2 Y0 Y0
 have hr:=num_len X0 N1 N2 N3 Y0 (L:=max L L') Y0 Y0
 refine⟨u,r,⟨K1+K2+K3,fun k hk=>?_⟩,N3,hr⟩
 have g1:whole_of.f k s l=_:=e1 k Y0
 have g2:whole_of.f k t p=_:=e2 k Y0
 have g3:whole_number_minus.f k a s1 b s2=_:=e3 k Y0
 show whole_Sub.f k s l t p=_
 rw[whole_Sub.f,g1,Option.bind_some,g2,Option.bind_some,g3,Option.bind_some,told_ok u (show r.length≤4096 by omega),Option.bind_some]
theorem AN.cmp (h:AN L n s l) (g:AN L' m t p) (hL:L≤1048576) (hL':L'≤1048576):Ev (fun k=>whole_Cmp.f k s l t p) (sg (n-m)):=by
 obtain⟨a,s1,⟨K1,e1⟩,N1,l1⟩:=h
 obtain⟨b,s2,⟨K2,e2⟩,N2,l2⟩:=g
 obtain⟨K3,e3⟩:=cmp_num N1 N2 Y0 Y0
 refine⟨K1+K2+K3,fun k hk=>?_⟩
 have g1:whole_of.f k s l=_:=e1 k Y0
 have g2:whole_of.f k t p=_:=e2 k Y0
 have g3:whole_number_cmp.f k a s1 b s2=_:=e3 k Y0
 show whole_Cmp.f k s l t p=_
 rw[whole_Cmp.f,g1,Option.bind_some,g2,Option.bind_some,g3,Option.bind_some]
end
theorem ediv_two (x:Int) {P Q:Int} (hP:0≤P):x/P/Q=x/(P*Q):=by
 rw[Int.ediv_ediv,if_neg Y0,Int.sub_zero]
theorem two_pow64 (j r:Nat):(2:Int)^(64*j+r)=18446744073709551616^j*2^r:=by
 rw[Int.pow_add,Int.pow_mul];rfl
theorem two_pos (n:Nat):(0:Int)<2^n:=Int.pow_pos X0
theorem two_le {m n:Nat} (h:m≤n):(2:Int)^m≤2^n:=pow_le_pow X0 h
theorem two_lt {m n:Nat} (h:m<n):(2:Int)^m<2^n:=by
 have h1:=two_le (show m+1≤n from h)
 rw[Int.pow_succ]at h1
 have:=two_pos m
 omega
theorem bit_limb {l:List Int} (hd:Dig 18446744073709551616 l) (i:Nat) (hi:i/64<l.length):val 18446744073709551616 l/2^i%2=l[i/64]/2^(i%64)%2:=by
 have e:(2:Int)^i=18446744073709551616^(i/64)*2^(i%64):=by
  rw[←two_pow64,show 64*(i/64)+i%64=i from by omega]
 have hP:(0:Int)<18446744073709551616^(i/64):=Int.pow_pos X0
 have hr:=two_pos (i%64)
 rw[e,←ediv_two _ (Int.le_of_lt hP)]
 have hs:=val_split 18446744073709551616 l (i/64) Y0
 have h1:=val_nonneg (B:=18446744073709551616) X0 (hd.take (i/64))
 have h2:=val_lt (B:=18446744073709551616) X0 (hd.take (i/64))
 rw[List.length_take,Nat.min_eq_left Y0]at h2
 rw[hs,Int.add_mul_ediv_left _ _ Y0,Int.ediv_eq_zero_of_lt h1 h2,Int.zero_add,List.drop_eq_getElem_cons hi]
 show(l[i/64]+18446744073709551616*val 18446744073709551616 (l.drop (i/64+1)))/2^(i%64)%2=_
 have e2:(18446744073709551616:Int)=2^(i%64)*(2*2^(63-i%64)):=by
  have h:=Int.pow_add 2 (i%64+1) (63-i%64)
  rw[show i%64+1+(63-i%64)=64 from by omega,Int.pow_succ 2 (i%64)]at h
  rw[←Int.mul_assoc,←h];rfl
 generalize hv:val 18446744073709551616 (l.drop (i/64+1))=v
 have e3:(18446744073709551616:Int)*v=2^(i%64)*(2*(2^(63-i%64)*v)):=by
  rw[e2];simp only[Int.mul_assoc]
 rw[e3,Int.add_mul_ediv_left _ _ Y0,Int.add_mul_emod_self_left]
theorem bit_high {V:Int} (h0:0≤V) {w j:Nat} (hv:V<2^w) (hj:w≤j):V/2^j%2=0:=by
 have:=two_le hj
 rw[Int.ediv_eq_zero_of_lt h0 Y0];rfl
theorem bitLen_le_iff {x:Nat} (h0:x≠0) (hx:x<18446744073709551616):1≤Lib.bitLen x∧2^(Lib.bitLen x-1)≤x∧x<2^Lib.bitLen x:=Lib.bitLenAux_bounds 64 x hx h0
theorem natTrim_eq:∀(k:Nat) (x:List Int) (n:Int),nat_trim.l0 k x n=whole_trimmed.l0 k x n
 | 0,_,_=>rfl
 | k+1,x,n=>by rw[nat_trim.l0,whole_trimmed.l0,natTrim_eq k]
theorem natTrim_f (k:Nat) (l:List Int):nat_trim.f k l=whole_trimmed.f k l:=natTrim_eq k l _
theorem trim_ev (l:List Int) (hl:l.length≤1048576) (hd:Dig 18446744073709551616 l):∃a,Ev (fun k=>whole_trimmed.f k l) a∧Rep 18446744073709551616 (val 18446744073709551616 l) a∧a.length≤l.length:=by
 obtain⟨m,hm,he,ht,hv⟩:=whole_trimmed_l0 l Y0 l.length (l.length+1) (Nat.le_refl _) Y0
 exact⟨l.take m,Ev.of (fun k=>whole_trimmed.mono l k) he,⟨hd.take m,ht,by rw[hv,List.take_length]⟩,by rw[List.length_take];omega⟩
theorem ntrim_ev (l:List Int) (hl:l.length≤1048576) (hd:Dig 18446744073709551616 l):∃a,Ev (fun k=>nat_trim.f k l) a∧Rep 18446744073709551616 (val 18446744073709551616 l) a∧a.length≤l.length:=by
 obtain⟨a,⟨K,h⟩,R,hl⟩:=trim_ev l hl hd
 exact⟨a,⟨K,fun k hk=>(natTrim_f k l).trans (h k hk)⟩,R,hl⟩
theorem cast_pow (n:Nat):(((2:Nat)^n:Nat):Int)=2^n:=by rw[Int.natCast_pow];rfl
theorem nlen_ev (l:List Int) (hl:l.length≤1048576) (hd:Dig 18446744073709551616 l):∃N:Int,Ev (fun k=>nat_Len.f k l) N∧∀w:Nat,N≤(w:Int)↔val 18446744073709551616 l<2^w:=by
 obtain⟨a,⟨K,hr⟩,R,hlen⟩:=ntrim_ev l hl hd
 by_cases h0:a=[]
 ·subst h0
  have hv:=(R.nil_iff X0).1 rfl
  refine⟨0,⟨K,fun k hk=>?_⟩,fun w=>?_⟩
  ·have e:nat_trim.f k l=some []:=hr k hk
   show nat_Len.f k l=_
   rw[nat_Len.f,e,Option.bind_some];rfl
  rw[hv]
  have:=two_pos w
  omega
 have hp:=List.length_pos_iff.2 h0
 have hg:=R.dig.get (a.length-1) Y0
 have ht:a[a.length-1]≠0:=by
  have h:=(Top_iff a).1 R.top h0
  rwa [List.getLast_eq_getElem]at h
 obtain⟨b1,b2,b3⟩:=bitLen_le_iff (x:=a[a.length-1].toNat) Y0 Y0
 generalize hb:Lib.bitLen a[a.length-1].toNat=b at b1 b2 b3
 have aa:b≤64:=by rw[←hb];exact Lib.bitLen_le _ 64 (Nat.le_refl _) Y0
 have hw:wrap64 ((a.length:Int)-1)=((a.length-1:Nat):Int):=by rw[w64 _ Y0];omega
 have e:rd a ((a.length-1:Nat):Int)=a[a.length-1]:=by
  unfold rd
  rw[Int.toNat_natCast,List.getD_eq_getElem?_getD,List.getElem?_eq_getElem Y0];rfl
 refine⟨((64*(a.length-1)+b:Nat):Int),⟨K,fun k hk=>?_⟩,fun w=>?_⟩
 ·have hr':nat_trim.f k l=_:=hr k hk
  show nat_Len.f k l=_
  rw[nat_Len.f,hr',Option.bind_some,if_neg Y0,hw,if_pos Y0,if_pos Y0,e,bits_Len64.f,if_pos ⟨hg.1,Y0⟩,Option.bind_some,hb,w64 (64*((a.length-1:Nat):Int)) Y0,w64 _ Y0]
  congr 1
 have hs:val 18446744073709551616 l=val 18446744073709551616 (a.take (a.length-1))+a[a.length-1]*18446744073709551616^(a.length-1):=by
  have h:=val_take_succ 18446744073709551616 a (a.length-1) Y0
  rw[show a.length-1+1=a.length from by omega,List.take_length,R.val]at h
  exact h
 have h1:=val_nonneg (B:=18446744073709551616) X0 (R.dig.take (a.length-1))
 have h2:=val_lt (B:=18446744073709551616) X0 (R.dig.take (a.length-1))
 rw[List.length_take,Nat.min_eq_left Y0]at h2
 have i2:(2:Int)^(b-1)≤a[a.length-1]:=by rw[←cast_pow];omega
 have i3:a[a.length-1]+1≤(2:Int)^b:=by rw[←cast_pow];omega
 have hP:(0:Int)<18446744073709551616^(a.length-1):=Int.pow_pos X0
 have j2:=Int.mul_le_mul_of_nonneg_right i2 (Int.le_of_lt hP)
 have j3:=Int.mul_le_mul_of_nonneg_right i3 (Int.le_of_lt hP)
 rw[Int.mul_comm,←two_pow64]at j2
 rw[Int.mul_comm _ (18446744073709551616^_),Int.mul_comm (2^b),←two_pow64,Int.mul_add,Int.mul_one,Int.mul_comm]at j3
 constructor
 ·intro h
  have:=two_le (show 64*(a.length-1)+b≤w by omega)
  omega
 intro h
 rcases Nat.lt_or_ge w (64*(a.length-1)+b) with g|g
 ·have:=two_le (show w≤64*(a.length-1)+(b-1) by omega)
  omega
 omega
def rightB (w V:Int):Bool:=decide (1≤w)&&decide (w≤4096)&&decide (V<2^w.toNat)
theorem Right_ev (w:Int) (l:List Int) (hl:l.length≤1048576) (hd:Dig 18446744073709551616 l):Ev (fun k=>bits_Right.f k w l) (rightB w (val 18446744073709551616 l)):=by
 obtain⟨N,⟨K,h⟩,hN⟩:=nlen_ev l hl hd
 refine⟨K,fun k hk=>?_⟩
 show bits_Right.f k w l=_
 unfold bits_Right.f rightB
 by_cases h1:w≥1
 ·rw[if_pos h1]
  by_cases h2:w≤4096
  ·have e:nat_Len.f k l=some N:=h k hk
   rw[if_pos h2,e,Option.bind_some,decide_eq_true (show 1≤w from h1),decide_eq_true h2,Bool.true_and,Bool.true_and]
   have:=hN w.toNat
   exact congrArg some (decide_eq_decide.2 (by rw[←this];omega))
  rw[if_neg h2,decide_eq_false h2,Bool.and_false,Bool.false_and]
 rw[if_neg h1,decide_eq_false (show ¬1≤w from h1),Bool.false_and,Bool.false_and]
theorem and_one {x:Int} (h0:0≤x) (h:x<18446744073709551616):Go.bits .and .u64 x 1=x%2:=by
 obtain⟨n,rfl⟩:∃n:Nat,x=n:=⟨x.toNat,Y0⟩
 have:=bits_and_u64_nat n 1 Y0 X0
 rw[Nat.and_one_is_mod]at this
 exact this.trans Y0
theorem bit_expr {l:List Int} (hd:Dig 18446744073709551616 l) (i:Nat) (hi:i/64<l.length) (hl:l.length≤1048576) :
  wrap64 (Int.tdiv (i:Int) 64)=((i/64:Nat):Int)∧IntKind.u64.wrap (Int.tmod (i:Int) 64)=((i%64:Nat):Int)∧Go.bits .and .u64 (shr .u64 (rd l ((i/64:Nat):Int)) ((i%64:Nat):Int)) 1=val 18446744073709551616 l/2^i%2:=by
 have e1:Int.tdiv (i:Int) 64=((i/64:Nat):Int):=by rw[Int.tdiv_eq_ediv_of_nonneg Y0];omega
 have e2:Int.tmod (i:Int) 64=((i%64:Nat):Int):=by rw[Int.tmod_eq_emod_of_nonneg Y0];omega
 have e3:rd l ((i/64:Nat):Int)=l[i/64]:=by
  unfold rd
  rw[Int.toNat_natCast,List.getD_eq_getElem?_getD,List.getElem?_eq_getElem hi];rfl
 have hg:=hd.get (i/64) hi
 have hp:=two_pos (i%64)
 refine⟨by rw[e1,w64 _ Y0],by rw[e2,IntKind.wrap_u64];omega,?_⟩
 rw[bit_limb hd i hi,e3]
 unfold shr
 rw[Int.toNat_natCast,show min (i%64) IntKind.u64.bits=i%64 from Nat.min_eq_left (by show i%64≤64;omega)]
 refine and_one (Int.ediv_nonneg hg.1 (Int.le_of_lt hp)) ?_
 exact Int.lt_of_le_of_lt (Int.ediv_le_self _ hg.1) hg.2
theorem Bit_ev (w:Nat) (l:List Int) (hw:1≤w∧w≤4096) (hl:l.length≤1048576) (hd:Dig 18446744073709551616 l):nat_Bit.f l (wrap64 ((w:Int)-1))=some (val 18446744073709551616 l/2^(w-1)%2==1)∧tribunalref09_bit.f (w:Int) l (wrap64 ((w:Int)-1))=some (val 18446744073709551616 l/2^(w-1)%2==1):=by
 have e:wrap64 ((w:Int)-1)=((w-1:Nat):Int):=by rw[w64 _ Y0];omega
 rw[e]
 by_cases hi:(w-1)/64<l.length
 ·obtain⟨e1,e2,e3⟩:=bit_expr hd (w-1) hi hl
  constructor
  ·rw[nat_Bit.f,if_pos Y0,e1,if_pos Y0,if_pos Y0,e2,if_pos Y0,e3]
  rw[tribunalref09_bit.f,e1,if_pos Y0,if_pos Y0,e2,if_pos Y0,e3]
 have e1:wrap64 (Int.tdiv ((w-1:Nat):Int) 64)=(((w-1)/64:Nat):Int):=by
  rw[Int.tdiv_eq_ediv_of_nonneg Y0,w64 _ Y0];omega
 have h0:=val_nonneg (B:=18446744073709551616) X0 hd
 have hv:=val_lt (B:=18446744073709551616) X0 hd
 have hv':val 18446744073709551616 l<2^(64*l.length):=by
  have:=two_pow64 l.length 0
  rw[Nat.add_zero,Int.pow_zero,Int.mul_one]at this
  rw[this];exact hv
 have hz:=bit_high h0 hv' (show 64*l.length≤w-1 by omega)
 rw[hz]
 constructor
 ·rw[nat_Bit.f,if_pos Y0,e1,if_neg Y0];rfl
 rw[tribunalref09_bit.f,e1,if_neg Y0];rfl
theorem u_ev (w:Int) (l:List Int) (hl:l.length≤1048576) (hd:Dig 18446744073709551616 l):∃a,Ev (fun k=>bits_u.f k w l) (false,a)∧Num 18446744073709551616 (val 18446744073709551616 l) false a∧a.length≤l.length:=by
 obtain⟨a,⟨K,h⟩,R,la⟩:=trim_ev l hl hd
 have N:=Num.of_rep X0 R false
 rw[if_neg X0,Bool.false_and]at N
 refine⟨a,⟨K,fun k hk=>?_⟩,N,la⟩
 have e:whole_trimmed.f k l=some a:=h k hk
 show bits_u.f k w l=_
 rw[bits_u.f,whole_Norm.f,whole_of.f,e,Option.bind_some,if_neg X0,Option.bind_some,out_ok false (show a.length≤1048576 by omega),Option.bind_some,Option.bind_some]
theorem long_one (l:List Int) (hl:l.length≤4096) (hd:Dig 18446744073709551616 l):Ev (fun k=>nat_long.f k [l]) false:=by
 obtain⟨a,⟨K,h⟩,R,la⟩:=ntrim_ev l Y0 hd
 refine⟨K+2,fun k hk=>?_⟩
 obtain⟨k,rfl⟩:∃j,k=j+2:=⟨k-2,Y0⟩
 have e:nat_trim.f (k+1) l=some a:=h _ Y0
 show nat_long.l0 (k+2) [l] 1 0=_
 rw[nat_long.l0,if_pos X0,if_pos X0,if_pos F1]
 show(nat_trim.f (k+1) l).bind _=_
 rw[e,Option.bind_some,if_neg Y0,show wrap64 ((0:Int)+1)=1 from(w64 _ Y0).trans rfl,nat_long.l0,if_neg X0]
theorem out_ev (l:List Int) (hl:l.length≤4096) (hd:Dig 18446744073709551616 l):∃a,Ev (fun k=>nat_out.f k l) (a,0)∧Rep 18446744073709551616 (val 18446744073709551616 l) a∧a.length≤l.length:=by
 obtain⟨K1,h1⟩:=long_one l hl hd
 obtain⟨a,⟨K2,h2⟩,R,la⟩:=ntrim_ev l Y0 hd
 refine⟨a,⟨K1+K2,fun k hk=>?_⟩,R,la⟩
 have e1:nat_long.f k [l]=some false:=h1 k Y0
 have e2:nat_trim.f k l=some a:=h2 k Y0
 show nat_out.f k l=_
 rw[nat_out.f,e1,Option.bind_some,if_neg X0,nat_own.f,e2,Option.bind_some]
 by_cases h0:a=[]
 ·subst h0;rfl
 have:=List.length_pos_iff.2 h0
 rw[if_neg Y0,api_Nat_uint64.f,if_pos Y0,Option.bind_some,Option.bind_some]
theorem shl_one (r:Nat) (hr:r<64):Ev (fun k=>nat_shl.f k [1] (r:Int)) [2^r,0]:=by
 refine⟨2,fun k hk=>?_⟩
 obtain⟨k,rfl⟩:∃j,k=j+2:=⟨k-2,Y0⟩
 have hp:=two_pos r
 have hlt:(2:Int)^r<18446744073709551616:=two_lt (n:=64) hr
 have h64:IntKind.u64.wrap (64-(r:Int))=((64-r:Nat):Int):=by rw[IntKind.wrap_u64];omega
 have e1:shl .u64 (rd [1] 0) (r:Int)=2^r:=by
  show IntKind.u64.wrap (1*2^min ((r:Int)).toNat 64)=_
  rw[Int.one_mul,Int.toNat_natCast,Nat.min_eq_left Y0,IntKind.wrap_u64,Int.emod_eq_of_lt Y0 hlt]
 have e2:Go.bits .or .u64 ((2:Int)^r) 0=2^r:=by
  have:=bits_or_u64_nat (2^r) 0 (Nat.pow_lt_pow_right X0 hr) X0
  rw[Nat.or_zero,cast_pow]at this
  exact this
 have e3:shr .u64 (rd [1] 0) ((64-r:Nat):Int)=0:=by
  show(1:Int)/2^min (((64-r:Nat):Int)).toNat 64=0
  rw[Int.toNat_natCast,Nat.min_eq_left Y0]
  have:=two_lt (show 0<64-r by omega)
  exact Int.ediv_eq_zero_of_lt X0 (by simpa using this)
 show nat_shl.f (k+2) [1] (r:Int)=_
 rw[nat_shl.f,show wrap64 ((([1]:List Int).length:Int)+1)=2 from(w64 _ X0).trans rfl,if_pos X0,if_pos X0,nat_shl.l0,if_pos X0,if_pos X0,if_pos X0,if_pos Y0,if_pos X0,h64,if_pos Y0,e1,e2,e3,show wrap64 ((0:Int)+1)=1 from(w64 _ Y0).trans rfl,nat_shl.l0,if_neg X0,if_pos F1]
 rfl
theorem dig_one:Dig 18446744073709551616 [1]:=by rw[Dig.cons];exact⟨Y0,Dig.nil⟩
theorem power_ev (w:Nat) (hw:1≤w∧w≤4096):∃a,Ev (fun k=>bits_power.f k (w:Int)) (false,a)∧Num 18446744073709551616 (2^w) false a∧a.length≤66:=by
 have hr:w%64<64:=Nat.mod_lt _ X0
 obtain⟨K1,h1⟩:=long_one [1] X0 dig_one
 obtain⟨t,⟨K2,h2⟩,Rt,lt⟩:=ntrim_ev [1] X0 dig_one
 obtain rfl:t=[1]:=Rt.uniq X0 ⟨dig_one,(show(1:Int)≠0 by decide),rfl⟩
 obtain⟨K3,h3⟩:=shl_one (w%64) hr
 have hp:=two_pos (w%64)
 have hlt:(2:Int)^(w%64)<18446744073709551616:=two_lt (n:=64) hr
 have hd:Dig 18446744073709551616 (List.replicate (w/64) 0++[2^(w%64),0]):=by
  rw[Dig.append,Dig.cons,Dig.cons]
  exact⟨Dig.rep X0 _,⟨Y0,Y0⟩,Y0,Dig.nil⟩
 have hl:(List.replicate (w/64) (0:Int)++[2^(w%64),0]).length=w/64+2:=by simp
 obtain⟨a,⟨K4,h4⟩,R,la⟩:=out_ev _ (by rw[hl];omega) hd
 have hv:val 18446744073709551616 (List.replicate (w/64) (0:Int)++[2^(w%64),0])=2^w:=by
  rw[val_append,val_replicate,List.length_replicate,Int.zero_add]
  show 18446744073709551616^(w/64)*(2^(w%64)+18446744073709551616*(0+18446744073709551616*0))=_
  rw[Int.mul_zero,Int.add_zero,Int.mul_zero,Int.add_zero,←two_pow64,show 64*(w/64)+w%64=w from by omega]
 rw[hv]at R
 have N:=Num.of_rep X0 R false
 rw[if_neg X0,Bool.false_and]at N
 have e1:Int.tdiv (w:Int) 64=((w/64:Nat):Int):=by rw[Int.tdiv_eq_ediv_of_nonneg Y0];omega
 have e2:Int.tmod (w:Int) 64=((w%64:Nat):Int):=by rw[Int.tmod_eq_emod_of_nonneg Y0];omega
 refine⟨a,⟨K1+K2+K3+K4,fun k hk=>?_⟩,N,by rw[hl]at la;omega⟩
 have g1:nat_long.f k [[1]]=some false:=h1 k Y0
 have g2:nat_trim.f k [1]=some [1]:=h2 k Y0
 have g3:nat_shl.f k [1] ((w%64:Nat):Int)=_:=h3 k Y0
 have g4:nat_out.f k (List.replicate (w/64) 0++[2^(w%64),0])=_:=h4 k Y0
 have hu:IntKind.u64.wrap ((w%64:Nat):Int)=((w%64:Nat):Int):=by rw[IntKind.wrap_u64];omega
 show bits_power.f k (w:Int)=_
 rw[bits_power.f,nat_Shl.f,if_neg Y0,g1,Option.bind_some,if_neg X0,g2,Option.bind_some,if_neg X0,if_neg Y0,e1,w64 ((w/64:Nat):Int) Y0,if_pos Y0,Int.toNat_natCast,if_pos Y0,Option.bind_some,Option.bind_some,e2,hu,g3,Option.bind_some,if_pos (by simp;omega),g4,Option.bind_some,Option.bind_some]
def sgn (w:Nat) (V:Int):Int:=if(V/2^(w-1)%2==1)=true then V-2^w else V
theorem s_ev (w:Nat) (l:List Int) (hw:1≤w∧w≤4096) (hl:l.length≤1048576) (hd:Dig 18446744073709551616 l) (hv:val 18446744073709551616 l<2^w):∃t a,Ev (fun k=>bits_s.f k (w:Int) l) (t,a)∧Num 18446744073709551616 (sgn w (val 18446744073709551616 l)) t a∧a.length≤100:=by
 obtain⟨a,⟨K1,h1⟩,N1,_⟩:=u_ev (w:Int) l hl hd
 have la:a.length≤64:=rep_len X0 N1.rep (by
  have h0:=val_nonneg (B:=18446744073709551616) X0 hd
  have:=two_le (show w≤64*64 by omega)
  have e:=two_pow64 64 0
  rw[Nat.add_zero,Int.pow_zero,Int.mul_one]at e
  omega)
 have hb:=(Bit_ev w l hw hl hd).1
 unfold sgn
 by_cases c:(val 18446744073709551616 l/2^(w-1)%2==1)=true
 ·rw[if_pos c]
  obtain⟨p,⟨K2,h2⟩,N2,lp⟩:=power_ev w hw
  obtain⟨t,q,⟨K3,h3⟩,N3,lq⟩:=(AN.of N1 la X0:AN 64 _ _ _).sub (AN.of N2 lp X0:AN 66 _ _ _) X0 X0
  refine⟨t,q,⟨K1+K2+K3,fun k hk=>?_⟩,N3,Y0⟩
  have g1:bits_u.f k (w:Int) l=_:=h1 k Y0
  have g2:bits_power.f k (w:Int)=_:=h2 k Y0
  have g3:whole_Sub.f k false a false p=_:=h3 k Y0
  show bits_s.f k (w:Int) l=_
  rw[bits_s.f,hb,Option.bind_some,if_pos c,g1,Option.bind_some,g2,Option.bind_some,g3,Option.bind_some]
 rw[if_neg c]
 refine⟨false,a,⟨K1,fun k hk=>?_⟩,N1,Y0⟩
 have g1:bits_u.f k (w:Int) l=_:=h1 k Y0
 show bits_s.f k (w:Int) l=_
 rw[bits_s.f,hb,Option.bind_some,if_neg c,g1,Option.bind_some]
theorem alive_ev:Ev (fun k=>tribunallaw09_alive.f k) true:=Ev.of (fun k=>tribunallaw09_alive.mono k) (k:=80) Z0
def vecs (a0 w1 V1 w2 V2:Int):Int:=if(rightB w1 V1&&rightB w2 V2)=true then(if a0=41 then 0 else if w2=w1 then 0 else 52) else 90
theorem vectors_ev (a0 w1 w2:Int) (l1 l2:List Int) (h1:l1.length≤1048576) (d1:Dig 18446744073709551616 l1) (h2:l2.length≤1048576) (d2:Dig 18446744073709551616 l2) :
  Ev (fun k=>bits_vectors.f k a0 [⟨w1,l1⟩,⟨w2,l2⟩]) (vecs a0 w1 (val 18446744073709551616 l1) w2 (val 18446744073709551616 l2)):=by
 obtain⟨K1,e1⟩:=Right_ev w1 l1 h1 d1
 obtain⟨K2,e2⟩:=Right_ev w2 l2 h2 d2
 refine⟨K1+K2,fun k hk=>?_⟩
 have g1:bits_Right.f k w1 l1=_:=e1 k Y0
 have g2:bits_Right.f k w2 l2=_:=e2 k Y0
 have hr:rights k [(⟨w1,l1⟩:S28),⟨w2,l2⟩]=some (rightB w1 (val 18446744073709551616 l1)&&rightB w2 (val 18446744073709551616 l2)):=by
  rw[rights]
  show(bits_Right.f k w1 l1).bind _=_
  rw[g1,Option.bind_some,rights]
  show((bits_Right.f k w2 l2).bind _).bind _=_
  rw[g2,Option.bind_some,rights,Option.bind_some,Option.bind_some,Bool.and_true]
 have hw:wideB [(⟨w1,l1⟩:S28),⟨w2,l2⟩]=(w2 != w1):=by
  show((w1 != w1) || ((w2 != w1) || false))=_
  simp
 show bits_vectors.f k a0 [⟨w1,l1⟩,⟨w2,l2⟩]=_
 rw[bits_vectors.f,if_neg F1,hr,Option.bind_some,hw]
 unfold vecs
 split
 ·split
  ·rfl
  by_cases c:w2=w1
  ·rw[if_neg (by simp[c]),if_pos c]
  rw[if_pos (by simpa using c),if_neg c]
 rfl
def cmpV (x0 x9:Int):Bool:=if x0=68 then decide (x9<0) else if x0=69 then decide (x9≤0) else if x0=70 then decide (x9>0) else decide (x9≥0)
theorem j1_eq (k:Nat) (x0 x9:Int):bits_Holds.j1 (k+1) x0 x9=some (cmpV x0 x9,0)∧tribunalref09_Holds.j0 (k+1) x0 x9=some (cmpV x0 x9,0):=by
 rw[bits_Holds.j1,tribunalref09_Holds.j0,cmpV]
 constructor<;>(repeat' split)<;>rfl
end Go.Proofs.YtncomlmhagaajaaGreat.PurePBo
