/- Part 5 of what the card rests on. -/
import Derived.Test.YtncomlmhagaajaaGreatCo4
set_option maxHeartbeats 8000000
set_option maxRecDepth 100000
set_option linter.unusedVariables false
set_option linter.unusedSimpArgs false
namespace Go.Proofs.YtncomlmhagaajaaGreat.PurePBo
open Go.RowKit Go.Proofs.YtncomlmhagaajaaGreatW.PrintWords Go.Proofs.YtncomlmhagaajaaGreatW.PrintLast Go.Proofs.YtncomlmhagaajaaGreatW.PrintMore Go.Proofs.YtncomlmhagaajaaGreat.PBo Go.Proofs.YtncomlmhagaajaaGreat Go.Proofs.YtncomlmhagaajaaGreat.Mine Big
theorem vecs_ne (a0 w1 V1 w2 V2:Int) (h:a0≠41):vecs a0 w1 V1 w2 V2=vecs 68 w1 V1 w2 V2:=by
 unfold vecs
 rw[if_neg h,if_neg (by decide:¬(68:Int)=41)]
theorem vecs_zero {a0 w1 V1 w2 V2:Int} (h:a0≠41) (hv:vecs a0 w1 V1 w2 V2=0):rightB w1 V1=true∧rightB w2 V2=true∧w2=w1:=by
 unfold vecs at hv
 split at hv
 ·rename_i c
  rw[Bool.and_eq_true]at c
  (try rw[if_neg h]at hv)
  split at hv
  ·rename_i c2;exact⟨c.1,c.2,c2⟩
  cases hv
 cases hv
theorem vecs_swap {w1 V1 w2 V2:Int} (hv:vecs 68 w1 V1 w2 V2=0):vecs 68 w2 V2 w1 V1=0:=by
 obtain⟨a,b,c⟩:=vecs_zero X0 hv
 unfold vecs
 rw[if_pos (by rw[a,b];rfl),if_neg X0,if_pos c.symm]
theorem vecs_vals (w1 V1 w2 V2:Int) (h:vecs 68 w1 V1 w2 V2≠0):vecs 68 w1 V1 w2 V2=90∨vecs 68 w1 V1 w2 V2=52:=by
 unfold vecs at h ⊢
 split
 ·rename_i c
  rw[if_pos c]at h
  rw[if_neg X0]at h ⊢
  split
  ·rename_i c2;rw[if_pos c2]at h;exact absurd rfl h
  exact .inr rfl
 exact .inl rfl
theorem sgn_as {n:Nat} {V:Int} (hn:1≤n) (h0:0≤V) (h1:V<2^n):sgn n V=if V<2^(n-1) then V else V-2^n:=by
 have e:(2:Int)^n=2*2^(n-1):=by
  obtain⟨m,rfl⟩:∃m,n=m+1:=⟨n-1,Y0⟩
  rw[Nat.add_sub_cancel,Int.pow_succ,Int.mul_comm]
 have hp:(0:Int)<2^(n-1):=Int.pow_pos X0
 unfold sgn
 rw[e]at h1 ⊢
 generalize (2:Int)^(n-1)=p at *
 by_cases c:V<p
 ·rw[if_pos c,Int.ediv_eq_zero_of_lt h0 c,if_neg X0]
 have:V/p=1:=((Int.ediv_emod_unique hp).2 (⟨Y0,Y0,Y0⟩:(V-p)+p*1=V∧0≤V-p∧V-p<p)).1
 rw[if_neg c,this,if_pos X0]
theorem sgn_zero {n:Nat} {V W:Int} (hn:1≤n) (h0:0≤V) (h1:V<2^n) (g0:0≤W) (g1:W<2^n):sgn n V-sgn n W=0↔V-W=0:=by
 rw[sgn_as hn h0 h1,sgn_as hn g0 g1]
 split<;>split<;>omega
def hval (a0 w1 V1 w2 V2:Int):Bool×Int:=if vecs 68 w1 V1 w2 V2=0 then(if a0≥72 then cmpV (a0-4) (sg (sgn w1.toNat V1-sgn w1.toNat V2)) else cmpV a0 (sg (V1-V2)),0) else(false,vecs 68 w1 V1 w2 V2)
theorem Holds_ev (a0 w1 w2:Int) (l1 l2:List Int) (h1:l1.length≤1048576) (d1:Dig 18446744073709551616 l1) (h2:l2.length≤1048576) (d2:Dig 18446744073709551616 l2) (ha:68≤a0∧a0≤75) :
  Ev (fun k=>bits_Holds.f k a0 w1 l1 w2 l2) (hval a0 w1 (val 18446744073709551616 l1) w2 (val 18446744073709551616 l2)):=by
 obtain⟨K1,e1⟩:=vectors_ev a0 w1 w2 l1 l2 h1 d1 h2 d2
 have pH:∀k,bits_Holds.f (k+1) a0 w1 l1 w2 l2=bits_Holds.j0 (k+1) a0 false w1 l1 w2 l2:=fun k=>by
  rw[bits_Holds.f,if_neg Y0,decide_eq_false Y0]
 rw[vecs_ne a0 _ _ _ _ Y0]at e1
 unfold hval
 by_cases hv:vecs 68 w1 (val 18446744073709551616 l1) w2 (val 18446744073709551616 l2)=0
 ·rw[if_pos hv]
  rw[hv]at e1
  obtain⟨r1,r2,rfl⟩:=vecs_zero X0 hv
  simp only[rightB,Bool.and_eq_true,decide_eq_true_eq]at r1 r2
  obtain⟨n,rfl⟩:∃n:Nat,w2=n:=⟨w2.toNat,Y0⟩
  rw[Int.toNat_natCast]at r1 r2
  have hn:1≤n∧n≤4096:=by omega
  obtain⟨a,⟨K3,e3⟩,N3,la⟩:=u_ev (n:Int) l1 h1 d1
  obtain⟨b,⟨K4,e4⟩,N4,lb⟩:=u_ev (n:Int) l2 h2 d2
  obtain⟨K7,e7⟩:=(AN.of N3 (show a.length≤1048576 by omega) X0:AN 1048576 _ _ _).cmp (AN.of N4 (show b.length≤1048576 by omega) X0:AN 1048576 _ _ _) X0 X0
  obtain⟨s1,t1,⟨J1,f1⟩,M1,m1⟩:=s_ev n l1 hn h1 d1 r1.2
  obtain⟨s2,t2,⟨J2,f2⟩,M2,m2⟩:=s_ev n l2 hn h2 d2 r2.2
  obtain⟨J5,f5⟩:=(AN.of M1 (show t1.length≤100 by omega) X0:AN 100 _ _ _).cmp (AN.of M2 (show t2.length≤100 by omega) X0:AN 100 _ _ _) X0 X0
  rw[Int.toNat_natCast]
  refine⟨K1+K3+K4+K7+J1+J2+J5+2,fun k hk=>?_⟩
  obtain⟨k,rfl⟩:∃j,k=j+2:=⟨k-2,Y0⟩
  have g1:bits_vectors.f (k+1) a0 [⟨(n:Int),l1⟩,⟨(n:Int),l2⟩]=_:=e1 _ Y0
  have g3:bits_u.f (k+1) (n:Int) l1=_:=e3 _ Y0
  have g4:bits_u.f (k+1) (n:Int) l2=_:=e4 _ Y0
  have g7:whole_Cmp.f (k+1) false a false b=_:=e7 _ Y0
  have q1:bits_s.f (k+1) (n:Int) l1=_:=f1 _ Y0
  have q2:bits_s.f (k+1) (n:Int) l2=_:=f2 _ Y0
  have q5:whole_Cmp.f (k+1) s1 t1 s2 t2=_:=f5 _ Y0
  refine(pH (k+1)).trans ?_
  rw[bits_Holds.j0,if_neg X0,g1,Option.bind_some,if_pos rfl,g3,Option.bind_some,g4,Option.bind_some,g7,Option.bind_some]
  by_cases c:a0≥72
  ·rw[if_pos c,if_pos c,q1,Option.bind_some,q2,Option.bind_some,q5,Option.bind_some,(j1_eq k _ _).1,w64 _ Y0,←Int.sub_eq_add_neg]
  rw[if_neg c,if_neg c,(j1_eq k _ _).1]
 rw[if_neg hv]
 refine⟨K1+2,fun k hk=>?_⟩
 obtain⟨k,rfl⟩:∃j,k=j+2:=⟨k-2,Y0⟩
 have g1:bits_vectors.f (k+1) a0 [⟨w1,l1⟩,⟨w2,l2⟩]=_:=e1 _ Y0
 refine(pH (k+1)).trans ?_
 rw[bits_Holds.j0,if_neg X0,g1,Option.bind_some,if_neg hv]
theorem sg_cases (d:Int):(d<0∧sg d = -1)∨(d=0∧sg d=0)∨(0<d∧sg d=1):=by
 unfold sg
 by_cases c:d<0
 ·exact .inl ⟨c,by simp[c]⟩
 by_cases c2:d=0
 ·exact .inr (.inl ⟨c2,by simp[c2]⟩)
 exact .inr (.inr ⟨Y0,by simp[c,c2]⟩)
theorem sg_nil (d:Int):sg d=0↔d=0:=by
 rcases sg_cases d with⟨a,b⟩|⟨a,b⟩|⟨a,b⟩<;>rw[b]<;>omega
theorem truth_t:Ev (fun k=>bits_truth.f k true) (false,[1]):=Ev.of (fun k=>bits_truth.mono _ k) (k:=40) Z0
theorem truth_f:Ev (fun k=>bits_truth.f k false) (false,[]):=Ev.of (fun k=>bits_truth.mono _ k) (k:=40) Z0
theorem of_t:Ev (fun k=>bits_of.f k 1 false [1]) (1,[1]):=Ev.of (fun k=>bits_of.mono _ _ _ k) (k:=80) Z0
theorem of_f:Ev (fun k=>bits_of.f k 1 false []) (1,[]):=Ev.of (fun k=>bits_of.mono _ _ _ k) (k:=80) Z0
theorem comp_ev (w1 w2:Int) (l1 l2:List Int) (h1:l1.length≤1048576) (d1:Dig 18446744073709551616 l1) (h2:l2.length≤1048576) (d2:Dig 18446744073709551616 l2) (hv:vecs 68 w1 (val 18446744073709551616 l1) w2 (val 18446744073709551616 l2)=0) :
  Ev (fun k=>bits_Apply.f k 51 ([]:List Int) [⟨w1,l1⟩,⟨w2,l2⟩]) (1,if val 18446744073709551616 l1-val 18446744073709551616 l2=0 then [1] else [],0):=by
 obtain⟨K1,e1⟩:=vectors_ev 51 w1 w2 l1 l2 h1 d1 h2 d2
 rw[vecs_ne 51 _ _ _ _ X0,hv]at e1
 obtain⟨a,⟨K3,e3⟩,N3,la⟩:=u_ev w1 l1 h1 d1
 obtain⟨b,⟨K4,e4⟩,N4,lb⟩:=u_ev w2 l2 h2 d2
 obtain⟨K7,e7⟩:=(AN.of N3 (show a.length≤1048576 by omega) X0:AN 1048576 _ _ _).cmp (AN.of N4 (show b.length≤1048576 by omega) X0:AN 1048576 _ _ _) X0 X0
 obtain⟨J1,f1⟩:=truth_t
 obtain⟨J2,f2⟩:=truth_f
 obtain⟨J3,f3⟩:=of_t
 obtain⟨J4,f4⟩:=of_f
 refine⟨K1+K3+K4+K7+J1+J2+J3+J4,fun k hk=>?_⟩
 have g1:bits_vectors.f k 51 [⟨w1,l1⟩,⟨w2,l2⟩]=_:=e1 _ Y0
 have g3:bits_u.f k w1 l1=_:=e3 _ Y0
 have g4:bits_u.f k w2 l2=_:=e4 _ Y0
 have g7:whole_Cmp.f k false a false b=_:=e7 _ Y0
 have p1:bits_truth.f k true=_:=f1 _ Y0
 have p2:bits_truth.f k false=_:=f2 _ Y0
 have p3:bits_of.f k 1 false [1]=_:=f3 _ Y0
 have p4:bits_of.f k 1 false []=_:=f4 _ Y0
 show bits_Apply.f k 51 [] [⟨w1,l1⟩,⟨w2,l2⟩]=_
 rw[bits_Apply.f,if_neg X0,if_pos rfl,bits_apply2,g1,Option.bind_some,if_pos rfl,if_neg X0,bits_numbers1_bits_ring_5.f,g3,Option.bind_some,g4,Option.bind_some,bits_ring_5.f,g7,Option.bind_some]
 by_cases c:val 18446744073709551616 l1-val 18446744073709551616 l2=0
 ·rw[if_pos c,beq_iff_eq.2 ((sg_nil _).2 c),p1,Option.bind_some,Option.bind_some,Option.bind_some,p3,Option.bind_some]
 rw[if_neg c,beq_eq_false_iff_ne.2 (fun h=>c ((sg_nil _).1 h)),p2,Option.bind_some,Option.bind_some,Option.bind_some,p4,Option.bind_some]
theorem comp_bad (w1 w2:Int) (l1 l2:List Int) (h1:l1.length≤1048576) (d1:Dig 18446744073709551616 l1) (h2:l2.length≤1048576) (d2:Dig 18446744073709551616 l2) (hv:vecs 68 w1 (val 18446744073709551616 l1) w2 (val 18446744073709551616 l2)≠0) :
  Ev (fun k=>bits_Apply.f k 51 ([]:List Int) [⟨w1,l1⟩,⟨w2,l2⟩]) (0,[],vecs 68 w1 (val 18446744073709551616 l1) w2 (val 18446744073709551616 l2)):=by
 obtain⟨K1,e1⟩:=vectors_ev 51 w1 w2 l1 l2 h1 d1 h2 d2
 rw[vecs_ne 51 _ _ _ _ X0]at e1
 refine⟨K1,fun k hk=>?_⟩
 have g1:bits_vectors.f k 51 [⟨w1,l1⟩,⟨w2,l2⟩]=_:=e1 _ Y0
 show bits_Apply.f k 51 [] [⟨w1,l1⟩,⟨w2,l2⟩]=_
 rw[bits_Apply.f,if_neg X0,if_pos rfl,bits_apply2,g1,Option.bind_some,if_neg hv]
end Go.Proofs.YtncomlmhagaajaaGreat.PurePBo
namespace Go.Proofs.YtncomlmhagaajaaGreat.Pure
open Go.RowKit Go.Proofs.YtncomlmhagaajaaGreatW.PrintWords Go.Proofs.YtncomlmhagaajaaGreatW.PrintLast Go.Proofs.YtncomlmhagaajaaGreatW.PrintMore Go.Proofs.YtncomlmhagaajaaGreat.PBo Go.Proofs.YtncomlmhagaajaaGreat Go.Proofs.YtncomlmhagaajaaGreat.Mine Big PurePBo
theorem bitsOrders_pure (w1:Int) (l1:List Int) (h1:l1.length≤1048576) (wf1:∀z∈l1,(Lit.int .u64 z).wf=true) (w2:Int) (l2:List Int) (h2:l2.length≤1048576) (wf2:∀z∈l2,(Lit.int .u64 z).wf=true):∃k,PBo.tribunallaw09_BitsOrders.f k w1 l1 w2 l2=some true:=by
 have d1:=dig_of_wf wf1
 have d2:=dig_of_wf wf2
 have H:=fun a0 ha=>Holds_ev a0 w1 w2 l1 l2 h1 d1 h2 d2 ha
 obtain⟨K1,e1⟩:=H 68 X0
 obtain⟨K2,e2⟩:=H 69 X0
 obtain⟨K3,e3⟩:=H 70 X0
 obtain⟨K4,e4⟩:=H 71 X0
 obtain⟨K5,e5⟩:=H 72 X0
 obtain⟨K6,e6⟩:=H 74 X0
 obtain⟨K7,e7⟩:=H 73 X0
 obtain⟨K8,e8⟩:=H 75 X0
 obtain⟨K0,e0⟩:=alive_ev
 clear H
 by_cases hv:vecs 68 w1 (val 18446744073709551616 l1) w2 (val 18446744073709551616 l2)=0
 ·obtain⟨K9,e9⟩:=comp_ev w1 w2 l1 l2 h1 d1 h2 d2 hv
  obtain⟨K10,e10⟩:=Holds_ev 68 w2 w1 l2 l1 h2 d2 h1 d1 X0
  refine⟨K1+K2+K3+K4+K5+K6+K7+K8+K0+K9+K10,?_⟩
  obtain⟨k,hk⟩:∃k,k=K1+K2+K3+K4+K5+K6+K7+K8+K0+K9+K10:=⟨_,rfl⟩
  rw[←hk]
  have hs:=vecs_swap hv
  simp only[hval,hv,hs,if_true]at e1 e2 e3 e4 e5 e6 e7 e8 e10
  have g1:bits_Holds.f k 68 w1 l1 w2 l2=_:=e1 _ Y0
  have g2:bits_Holds.f k 69 w1 l1 w2 l2=_:=e2 _ Y0
  have g3:bits_Holds.f k 70 w1 l1 w2 l2=_:=e3 _ Y0
  have g4:bits_Holds.f k 71 w1 l1 w2 l2=_:=e4 _ Y0
  have g5:bits_Holds.f k 72 w1 l1 w2 l2=_:=e5 _ Y0
  have g6:bits_Holds.f k 74 w1 l1 w2 l2=_:=e6 _ Y0
  have g7:bits_Holds.f k 73 w1 l1 w2 l2=_:=e7 _ Y0
  have g8:bits_Holds.f k 75 w1 l1 w2 l2=_:=e8 _ Y0
  have g9:bits_Apply.f k 51 ([]:List Int) [⟨w1,l1⟩,⟨w2,l2⟩]=_:=e9 _ Y0
  have g10:bits_Holds.f k 68 w2 l2 w1 l1=_:=e10 _ Y0
  have g0:tribunallaw09_alive.f k=_:=e0 _ Y0
  rw[tribunallaw09_BitsOrders.f,g1,Option.bind_some,g2,Option.bind_some,g3,Option.bind_some,g4,Option.bind_some,g5,Option.bind_some,g6,Option.bind_some,g7,Option.bind_some,g8,Option.bind_some,g9,Option.bind_some]
  obtain⟨r1,r2,rfl⟩:=vecs_zero X0 hv
  simp only[rightB,Bool.and_eq_true,decide_eq_true_eq]at r1 r2
  have hsz:=sgn_zero (n:=w2.toNat) Y0 (val_nonneg (B:=18446744073709551616) X0 d1) r1.2 (val_nonneg (B:=18446744073709551616) X0 d2) r2.2
  have hneg:val 18446744073709551616 l2-val 18446744073709551616 l1 = -(val 18446744073709551616 l1-val 18446744073709551616 l2):=by omega
  rw[if_pos rfl,g10,Option.bind_some,hneg]
  clear e1 e2 e3 e4 e5 e6 e7 e8 e9 e10 e0 g1 g2 g3 g4 g5 g6 g7 g8 g9 g10 hneg hs hv r1 r2
  generalize sgn w2.toNat (val 18446744073709551616 l1)-sgn w2.toNat (val 18446744073709551616 l2)=s at *
  generalize val 18446744073709551616 l1-val 18446744073709551616 l2=d at *
  rw[if_pos,g0,Option.bind_some]
  refine⟨⟨rfl,rfl,rfl⟩,?_⟩
  rcases sg_cases d with⟨a,b⟩|⟨a,b⟩|⟨a,b⟩<;>rcases sg_cases (-d) with⟨a',b'⟩|⟨a',b'⟩|⟨a',b'⟩<;>rcases sg_cases s with⟨a2,b2⟩|⟨a2,b2⟩|⟨a2,b2⟩<;>first
   | (exfalso;omega)
   | (simp only[b,b',b2,if_neg (show ¬d=0 by omega)];simp[cmpV];done)
   | (simp only[b,b',b2,if_pos (show d=0 by omega)];simp[cmpV];done)
 obtain⟨K9,e9⟩:=comp_bad w1 w2 l1 l2 h1 d1 h2 d2 hv
 refine⟨K1+K2+K3+K4+K5+K6+K7+K8+K0+K9,?_⟩
 obtain⟨k,hk⟩:∃k,k=K1+K2+K3+K4+K5+K6+K7+K8+K0+K9:=⟨_,rfl⟩
 rw[←hk]
 simp only[hval,hv,if_false]at e1 e2 e3 e4 e5 e6 e7 e8
 have g1:bits_Holds.f k 68 w1 l1 w2 l2=_:=e1 _ Y0
 have g2:bits_Holds.f k 69 w1 l1 w2 l2=_:=e2 _ Y0
 have g3:bits_Holds.f k 70 w1 l1 w2 l2=_:=e3 _ Y0
 have g4:bits_Holds.f k 71 w1 l1 w2 l2=_:=e4 _ Y0
 have g5:bits_Holds.f k 72 w1 l1 w2 l2=_:=e5 _ Y0
 have g6:bits_Holds.f k 74 w1 l1 w2 l2=_:=e6 _ Y0
 have g7:bits_Holds.f k 73 w1 l1 w2 l2=_:=e7 _ Y0
 have g8:bits_Holds.f k 75 w1 l1 w2 l2=_:=e8 _ Y0
 have g9:bits_Apply.f k 51 ([]:List Int) [⟨w1,l1⟩,⟨w2,l2⟩]=_:=e9 _ Y0
 have g0:tribunallaw09_alive.f k=_:=e0 _ Y0
 rw[tribunallaw09_BitsOrders.f,g1,Option.bind_some,g2,Option.bind_some,g3,Option.bind_some,g4,Option.bind_some,g5,Option.bind_some,g6,Option.bind_some,g7,Option.bind_some,g8,Option.bind_some,g9,Option.bind_some,if_neg hv,if_pos ⟨rfl,rfl,vecs_vals _ _ _ _ hv⟩,g0,Option.bind_some]
end Go.Proofs.YtncomlmhagaajaaGreat.Pure
