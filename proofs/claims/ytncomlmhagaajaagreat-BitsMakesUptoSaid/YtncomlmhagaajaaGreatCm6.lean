/- Part 6 of what the card rests on. -/
import Derived.Lib.ItoaNum
import Derived.Laws.Bits64b
import Derived.Test.YtncomlmhagaajaaGreatCm5
set_option maxHeartbeats 8000000
set_option maxRecDepth 100000
set_option linter.unusedVariables false
set_option linter.unusedSimpArgs false
namespace Go.Proofs.YtncomlmhagaajaaGreat.PurePBo
open Go.RowKit Go.Proofs.YtncomlmhagaajaaGreatW.PrintWords Go.Proofs.YtncomlmhagaajaaGreatW.PrintLast Go.Proofs.YtncomlmhagaajaaGreatW.PrintMore Go.Proofs.YtncomlmhagaajaaGreat.PBo Go.Proofs.YtncomlmhagaajaaGreat Go.Proofs.YtncomlmhagaajaaGreat.Mine Big
structure Fix (N vn1 vn2 un2 g r:Int):Prop where
 hv1:0<vn1∧vn1<18446744073709551616
 hv2:0≤vn2∧vn2<18446744073709551616
 hu2:0≤un2∧un2<18446744073709551616
 hg:0≤g∧g<18446744073709551616
 hr:0≤r∧r<18446744073709551616
 hN:N=g*vn1+r
 top:N*18446744073709551616+un2<(g+1)*(vn1*18446744073709551616+vn2)
theorem Fix.eqs {N vn1 vn2 un2 g r:Int} (h:Fix N vn1 vn2 un2 g r):N*18446744073709551616+un2-g*(vn1*18446744073709551616+vn2)=r*18446744073709551616+un2-g*vn2:=by
 have:=h.hN
 rw[Int.mul_add,←Int.mul_assoc]
 generalize g*vn1=x at *
 generalize g*vn2=y at *
 omega
theorem fix_run {N vn1 vn2 un2:Int}:∀(n:Nat) (g r:Int),(18446744073709551616-r).toNat≤n→Fix N vn1 vn2 un2 g r→∃g2,quo_fix (n+1) g r vn2 vn1 un2=some g2∧0≤g2∧g2<18446744073709551616∧g2*(vn1*18446744073709551616+vn2)≤N*18446744073709551616+un2∧N*18446744073709551616+un2<(g2+1)*(vn1*18446744073709551616+vn2):=by
 intro n
 induction n with
 | zero=>intro g r hn h;have:=h.hr;omega
 | succ n ih=>
  intro g r hn h
  have e:=h.eqs
  have hr:=h.hr
  have hu:=h.hu2
  have hb:=mul_bound (M:=18446744073709551615) (x:=g) (y:=vn2) (by have:=h.hg;omega) (by have:=h.hv2;omega)
  rw[quo_fix,Mul64_eq g vn2 h.hg h.hv2,Option.bind_some]
  have hp:g*vn2=g*vn2/18446744073709551616*18446744073709551616+g*vn2%18446744073709551616:=by omega
  have hl:0≤g*vn2%18446744073709551616∧g*vn2%18446744073709551616<18446744073709551616:=by omega
  show ∃g2,(if g*vn2/18446744073709551616<r then some g else if g*vn2/18446744073709551616=r∧g*vn2%18446744073709551616≤un2 then some g else _)=some g2∧_
  by_cases hc:g*vn2≤r*18446744073709551616+un2
  ·refine⟨g,?_,h.hg.1,h.hg.2,Z0,h.top⟩
   by_cases h1:g*vn2/18446744073709551616<r
   ·rw[if_pos h1]
   rw[if_neg h1,if_pos Z0]
  have h1:¬g*vn2/18446744073709551616<r:=by omega
  have h2:¬(g*vn2/18446744073709551616=r∧g*vn2%18446744073709551616≤un2):=by omega
  rw[if_neg h1,if_neg h2]
  have hv1:=h.hv1
  have hg1:1≤g:=by
   have:=h.hg
   refine Classical.byContradiction fun hx=>?_
   have:g=0:=by omega
   rw[this]at hc;omega
  have htop:N*18446744073709551616+un2<(g-1+1)*(vn1*18446744073709551616+vn2):=by
   rw[show g-1+1=g from by omega];omega
  have hg':=h.hg
  rw[u64_in (x:=g-1) Z0]
  by_cases ho:r+vn1<18446744073709551616
  ·rw[u64_in (x:=r+vn1) Z0,if_neg Z0]
   refine ih (g-1) (r+vn1) Z0 ⟨h.hv1,h.hv2,h.hu2,Z0,Z0,?_,htop⟩
   rw[Int.sub_mul,Int.one_mul];have:=h.hN;omega
  have hw:IntKind.u64.wrap (r+vn1)=r+vn1-18446744073709551616:=by rw[IntKind.wrap_u64];omega
  rw[hw,if_pos Z0]
  refine⟨g-1,rfl,Z0,Z0,?_,htop⟩
  have h9:(g-1)*vn2=g*vn2-vn2:=by rw[Int.sub_mul,Int.one_mul]
  have h8:=h.hv2
  have h10:(g-1)*(vn1*18446744073709551616+vn2)=g*(vn1*18446744073709551616+vn2)-(vn1*18446744073709551616+vn2):=by rw[Int.sub_mul,Int.one_mul]
  rw[h10]
  omega
theorem guess_ev {un un1 un2 vn1 vn2:Int} (hu:0≤un∧un<18446744073709551616) (hu1:0≤un1∧un1<18446744073709551616) (hu2:0≤un2∧un2<18446744073709551616) (hv1:9223372036854775808≤vn1∧vn1<18446744073709551616) (hv2:0≤vn2∧vn2<18446744073709551616) :
  ∃g,Ev (fun k=>quo_guess k un un1 un2 vn1 vn2) g∧0≤g∧g<18446744073709551616∧((g*(vn1*18446744073709551616+vn2)≤(un*18446744073709551616+un1)*18446744073709551616+un2∧(un*18446744073709551616+un1)*18446744073709551616+un2<(g+1)*(vn1*18446744073709551616+vn2))∨(vn1≤un∧g=18446744073709551615)):=by
 by_cases hc:un<vn1
 ·obtain⟨K,hK⟩:=Div64_ev (a0:=un) (a1:=un1) (a2:=vn1) ⟨hu.1,hc⟩ hu1 hv1.2
  have h1:=Int.mul_ediv_add_emod (un*18446744073709551616+un1) vn1
  have h2:=Int.emod_nonneg (un*18446744073709551616+un1) (show vn1≠0 by omega)
  have h3:=Int.emod_lt_of_pos (un*18446744073709551616+un1) (show 0<vn1 by omega)
  have h4:0≤(un*18446744073709551616+un1)/vn1:=Int.ediv_nonneg Z0 Z0
  have h5:(un*18446744073709551616+un1)/vn1<18446744073709551616:=Int.ediv_lt_of_lt_mul Z0 Z0
  rw[Int.mul_comm]at h1
  obtain⟨g,hg,g0,g1,g2,g3⟩:=fix_run (N:=un*18446744073709551616+un1) (vn1:=vn1) (vn2:=vn2) (un2:=un2) _ _ _ (Nat.le_refl _) ⟨Z0,hv2,hu2,⟨h4,h5⟩,⟨h2,Z0⟩,h1.symm,by
   have h6:0≤((un*18446744073709551616+un1)/vn1+1)*vn2:=Int.mul_nonneg Z0 hv2.1
   rw[Int.mul_add,←Int.mul_assoc,Int.add_mul ((un*18446744073709551616+un1)/vn1) 1 vn1,Int.one_mul]
   omega⟩
  obtain⟨J,hJ⟩:=Ev.of (fun k=>quo_fix.mono k _ _ _ _ _) hg
  refine⟨g,⟨max K J,fun k hk=>?_⟩,g0,g1,.inl ⟨g2,g3⟩⟩
  have e1:bits_Div64.f k un un1 vn1=_:=hK k Z0
  have e2:=hJ k Z0
  show quo_guess k un un1 un2 vn1 vn2=some g
  rw[quo_guess,if_pos hc,e1,Option.bind_some]
  exact e2
 refine⟨18446744073709551615,⟨0,fun k _=>?_⟩,Z0,Z0,.inr ⟨Z0,rfl⟩⟩
 show quo_guess k un un1 un2 vn1 vn2=_
 rw[quo_guess,if_neg hc]
theorem digit_bounds {U V W U0 V0 g un un1 un2 vn1 vn2:Int} (hW:0<W) (hU:U=U0+((un*18446744073709551616+un1)*18446744073709551616+un2)*W) (hV:V=V0+(vn1*18446744073709551616+vn2)*W) (hU0:0≤U0∧U0<W) (hV0:0≤V0∧V0<W) (hlt:U<V*18446744073709551616)
  (hu:0≤un) (hu1:0≤un1) (hu2:0≤un2) (hv1:9223372036854775808≤vn1) (hv2:0≤vn2∧vn2<18446744073709551616) (hg:0≤g∧g<18446744073709551616)
  (h:(g*(vn1*18446744073709551616+vn2)≤(un*18446744073709551616+un1)*18446744073709551616+un2∧(un*18446744073709551616+un1)*18446744073709551616+un2<(g+1)*(vn1*18446744073709551616+vn2))∨(vn1≤un∧g=18446744073709551615)):U<(g+1)*V∧(g-1)*V≤U:=by
 have hV2:V≤(vn1*18446744073709551616+vn2+1)*W:=by rw[Int.add_mul _ 1 W,Int.one_mul];omega
 have hVn:0≤V:=by
  have:=Int.mul_nonneg (show 0≤vn1*18446744073709551616+vn2 by omega) (Int.le_of_lt hW)
  omega
 rcases h with⟨h1,h2⟩|⟨h1,h2⟩
 ·have hT0:0≤(un*18446744073709551616+un1)*18446744073709551616+un2:=by omega
  have aa:18446744073709551616≤vn1*18446744073709551616+vn2:=by omega
  generalize (un*18446744073709551616+un1)*18446744073709551616+un2=T at *
  generalize vn1*18446744073709551616+vn2=v2 at *
  constructor
  ·have a1:=Int.mul_le_mul_of_nonneg_right (show T+1≤(g+1)*v2 by omega) (Int.le_of_lt hW)
   have a2:=Int.mul_le_mul_of_nonneg_left (show v2*W≤V by omega) (show 0≤g+1 by omega)
   rw[Int.add_mul,Int.one_mul,Int.mul_assoc]at a1
   omega
  by_cases hg0:g=0
  ·rw[hg0]
   have:=Int.mul_nonneg hT0 (Int.le_of_lt hW)
   omega
  have a1:=Int.mul_le_mul_of_nonneg_left hV2 (show 0≤g-1 by omega)
  rw[←Int.mul_assoc]at a1
  have a2:(g-1)*(v2+1)≤T:=by
   rw[Int.mul_add,Int.mul_one,Int.sub_mul,Int.one_mul];omega
  have a3:=Int.mul_le_mul_of_nonneg_right a2 (Int.le_of_lt hW)
  omega
 subst h2
 constructor
 ·rw[Int.mul_comm V]at hlt;exact hlt
 have a1:=Int.mul_le_mul_of_nonneg_left hV2 (show(0:Int)≤18446744073709551615-1 by decide)
 rw[←Int.mul_assoc]at a1
 have a2:(18446744073709551615-1)*(vn1*18446744073709551616+vn2+1)≤(un*18446744073709551616+un1)*18446744073709551616+un2:=by omega
 have a3:=Int.mul_le_mul_of_nonneg_right a2 (Int.le_of_lt hW)
 omega
theorem top_two (v:List Int) (m:Nat) (hl:v.length=m+2):val 18446744073709551616 v=val 18446744073709551616 (v.take m)+(v.getD (m+1) 0*18446744073709551616+v.getD m 0)*18446744073709551616^m:=by
 have e:val 18446744073709551616 v=val 18446744073709551616 (v.take (m+1+1)):=by rw[List.take_of_length_le Z0]
 rw[e,val_take_getD,val_take_getD,Int.pow_succ,Int.mul_comm (18446744073709551616^m) 18446744073709551616,←Int.mul_assoc,Int.add_mul]
 omega
theorem top_three (S:List Int) (m:Nat) (hl:S.length=m+3):val 18446744073709551616 S=val 18446744073709551616 (S.take m)+((S.getD (m+2) 0*18446744073709551616+S.getD (m+1) 0)*18446744073709551616+S.getD m 0)*18446744073709551616^m:=by
 have e:val 18446744073709551616 S=val 18446744073709551616 (S.take (m+2+1)):=by rw[List.take_of_length_le Z0]
 rw[e,val_take_getD,val_take_getD,val_take_getD,show(18446744073709551616:Int)^(m+2)=18446744073709551616^m*18446744073709551616*18446744073709551616 from by rw[Int.pow_succ,Int.pow_succ],Int.pow_succ]
 generalize (18446744073709551616:Int)^m=W
 generalize S.getD (m+2) 0=a
 generalize S.getD (m+1) 0=b
 generalize S.getD m 0=c
 have e1:b*(W*18446744073709551616)=b*18446744073709551616*W:=by rw[Int.mul_comm W,←Int.mul_assoc]
 have e2:a*(W*18446744073709551616*18446744073709551616)=a*18446744073709551616*18446744073709551616*W:=by
  rw[Int.mul_assoc W,Int.mul_comm W,←Int.mul_assoc,←Int.mul_assoc]
 have e3:((a*18446744073709551616+b)*18446744073709551616+c)*W=a*18446744073709551616*18446744073709551616*W+b*18446744073709551616*W+c*W:=by
  rw[Int.add_mul _ b,Int.add_mul,Int.add_mul]
 rw[e1,e2,e3]
 omega
theorem seg_getD (u:List Int) (j n t:Nat) (h:t<n):((u.drop j).take n).getD t 0=u.getD (j+t) 0:=by
 rw[List.getD_eq_getElem?_getD,List.getD_eq_getElem?_getD,List.getElem?_take_of_lt h,List.getElem?_drop]
theorem go_digit (u v:List Int) (n j:Nat) (hn:v.length=n) (hn2:2≤n) (hl:n≤8388600) (hj:j+n<u.length) (du:Dig 18446744073709551616 u) (dv:Dig 18446744073709551616 v) (hv1:9223372036854775808≤v.getD (n-1) 0) (hlt:val 18446744073709551616 ((u.drop j).take (n+1))<val 18446744073709551616 v*18446744073709551616) (hjl:u.length≤8388608) :
  ∃(g:Int) (S:List Int) (K:Nat),0≤g∧g<18446744073709551616∧S.length=n+1∧Dig 18446744073709551616 S∧val 18446744073709551616 S<val 18446744073709551616 v∧val 18446744073709551616 ((u.drop j).take (n+1))=g*val 18446744073709551616 v+val 18446744073709551616 S ∧
   ∀k,K≤k→∀q:List Int,j<q.length→quo_go (k+1) u v q (j:Int)=quo_go k (splice u j S) v (q.set j g) ((j:Int)-1):=by
 obtain⟨m,rfl⟩:∃m,n=m+2:=⟨n-2,Z0⟩
 have hSl:((u.drop j).take (m+2+1)).length=m+3:=by simp;omega
 have dS:Dig 18446744073709551616 ((u.drop j).take (m+2+1)):=(du.drop j).take _
 have t3:=top_three _ m hSl
 have t2:=top_two v m hn
 rw[seg_getD _ _ _ _ Z0,seg_getD _ _ _ _ Z0,seg_getD _ _ _ _ Z0]at t3
 have d0:=getD_dig X0 du (j+m)
 have d1:=getD_dig X0 du (j+(m+1))
 have d2:=getD_dig X0 du (j+(m+2))
 have w0:=getD_dig X0 dv m
 have w1:=getD_dig X0 dv (m+1)
 rw[show m+2-1=m+1 from by omega]at hv1
 have U0:=val_nonneg (B:=18446744073709551616) X0 (dS.take m)
 have U1:=val_lt (B:=18446744073709551616) X0 (dS.take m)
 rw[List.length_take,Nat.min_eq_left Z0]at U1
 have V0:=val_nonneg (B:=18446744073709551616) X0 (dv.take m)
 have V1:=val_lt (B:=18446744073709551616) X0 (dv.take m)
 rw[List.length_take,Nat.min_eq_left Z0]at V1
 obtain⟨g,⟨K1,hg⟩,g0,g1,hgc⟩:=guess_ev d2 d1 d0 ⟨hv1,w1.2⟩ w0
 obtain⟨b1,b2⟩:=digit_bounds (pow_pos X0 m) t3 t2 ⟨U0,U1⟩ ⟨V0,V1⟩ hlt d2.1 d1.1 d0.1 hv1 w0 ⟨g0,g1⟩ hgc
 clear t3 t2 hgc U0 U1 V0 V1
 have hUn:=val_nonneg (B:=18446744073709551616) X0 dS
 have hVn:=val_nonneg (B:=18446744073709551616) X0 dv
 have hVl:=val_lt (B:=18446744073709551616) X0 dv
 rw[hn]at hVl
 have hpw:(18446744073709551616:Int)^(m+2)≤18446744073709551616^(m+2+1):=pow_le_pow X0 Z0
 obtain⟨bb,r,⟨K2,hr⟩,bb0,bb1,hrl,dr,hrv⟩:=subtract_ev ((u.drop j).take (m+2+1)) v g (m+2) hn Z0 ⟨g0,g1⟩ dv (by rw[hSl]) dS
 have r0:=val_nonneg (B:=18446744073709551616) X0 dr
 have r1:=val_lt (B:=18446744073709551616) X0 dr
 rw[hrl]at r1
 have head:∀k (q:List Int),K1≤k→K2≤k→j<q.length→quo_go (k+1) u v q (j:Int)=if(bb==1)=true then(whole_add.f k r v).bind fun s=>quo_go k (splice u j s) v (q.set j (IntKind.u64.wrap (g-1))) ((j:Int)-1) else quo_go k (splice u j r) v (q.set j g) ((j:Int)-1):=by
  intro k q k1 k2 hq
  have e1:=hg k k1
  have e2:whole_subtract.f k ((u.drop j).take (m+2+1)) v g=_:=hr k k2
  have c1:(j:Int)+(v.length:Int)<(u.length:Int)∧(j:Int)<(q.length:Int)∧2≤v.length:=by omega
  have i1:(j:Int)+(v.length:Int)=((j+(m+2):Nat):Int):=by omega
  have i2:((j+(m+2):Nat):Int)-1=((j+(m+1):Nat):Int):=by omega
  have i3:((j+(m+2):Nat):Int)-2=((j+m:Nat):Int):=by omega
  have i4:(v.length:Int)-1=((m+1:Nat):Int):=by omega
  have i5:(v.length:Int)-2=((m:Nat):Int):=by omega
  rw[quo_go,if_neg Z0,if_pos c1,i4,i5,i1,i2,i3,rd_getD,rd_getD,rd_getD,rd_getD,rd_getD,Int.toNat_natCast,hn]
  replace e1:quo_guess k (u.getD (j+(m+2)) 0) (u.getD (j+(m+1)) 0) (u.getD (j+m) 0) (v.getD (m+1) 0) (v.getD m 0)=some g:=e1
  rw[e1,Option.bind_some,e2,Option.bind_some]
 generalize hU:val 18446744073709551616 ((u.drop j).take (m+2+1))=U at *
 generalize hVV:val 18446744073709551616 v=V at *
 have bx1:(g+1)*V=g*V+V:=by rw[Int.add_mul,Int.one_mul]
 have bx2:(g-1)*V=g*V-V:=by rw[Int.sub_mul,Int.one_mul]
 by_cases hneg:U-g*V<0
 ·have hbb:bb=1:=by
   have:bb=0∨bb=1:=by omega
   rcases this with h|h
   ·rw[h,Int.zero_mul]at hrv;omega
   exact h
  subst hbb
  rw[Int.one_mul]at hrv
  have hg1:1≤g:=by
   refine Classical.byContradiction fun hx=>?_
   have:g=0:=by omega
   rw[this,Int.zero_mul]at hneg;omega
  obtain⟨c,r2,⟨K3,hr2⟩,c0,ab,dr2,aa⟩:=add_ev' r v (m+2) hn Z0 dv hrl dr
  have s0:=val_nonneg (B:=18446744073709551616) X0 dr2
  have s1:=val_lt (B:=18446744073709551616) X0 dr2
  rw[ab]at s1
  rw[hVV]at aa
  have hc:c=1:=by
   have h3:c=0∨c=1∨2≤c:=by omega
   rcases h3 with h|h|h
   ·rw[h,Int.zero_mul]at aa;omega
   ·exact h
   have:=Int.mul_le_mul_of_nonneg_right h (Int.le_of_lt (pow_pos (B:=18446744073709551616) X0 (m+2+1)))
   omega
  rw[hc,Int.one_mul]at aa
  refine⟨g-1,r2,max K1 (max K2 K3),Z0,Z0,ab,dr2,Z0,by rw[bx2];omega,fun k hk q hq=>?_⟩
  have e3:whole_add.f k r v=some r2:=hr2 k Z0
  rw[head k q Z0 Z0 hq,if_pos X0,e3,Option.bind_some,u64_in (x:=g-1) Z0]
 have hbb:bb=0:=by
  have:bb=0∨bb=1:=by omega
  rcases this with h|h
  ·exact h
  rw[h,Int.one_mul]at hrv;omega
 subst hbb
 rw[Int.zero_mul]at hrv
 refine⟨g,r,max K1 K2,g0,g1,hrl,dr,Z0,Z0,fun k hk q hq=>?_⟩
 rw[head k q Z0 Z0 hq,if_neg X0]
theorem val_take_of_lt {l:List Int} {n:Nat} (hd:Dig 18446744073709551616 l) (h:val 18446744073709551616 l<18446744073709551616^n):val 18446744073709551616 (l.take n)=val 18446744073709551616 l∧val 18446744073709551616 (l.drop n)=0:=by
 by_cases hn:n≤l.length
 ·have e:=val_split 18446744073709551616 l n hn
  have h1:=val_nonneg (B:=18446744073709551616) X0 (hd.take n)
  have h2:=val_nonneg (B:=18446744073709551616) X0 (hd.drop n)
  have h3:val 18446744073709551616 (l.drop n)=0:=by
   refine Classical.byContradiction fun hx=>?_
   have:=Int.mul_le_mul_of_nonneg_left (show 1≤val 18446744073709551616 (l.drop n) by omega) (Int.le_of_lt (pow_pos (B:=18446744073709551616) X0 n))
   omega
  rw[h3,Int.mul_zero]at e
  exact⟨Z0,h3⟩
 rw[List.take_of_length_le Z0,List.drop_eq_nil_of_le Z0]
 exact⟨rfl,rfl⟩
theorem splice_drop (u S:List Int) (j:Nat) (h:j+S.length≤u.length):(splice u j S).drop j=S++u.drop (j+S.length)∧(splice u j S).length=u.length∧val 18446744073709551616 (splice u j S)=val 18446744073709551616 (u.take j)+18446744073709551616^j*(val 18446744073709551616 S+18446744073709551616^S.length*val 18446744073709551616 (u.drop (j+S.length))):=by
 have hl:(u.take j).length=j:=by rw[List.length_take];omega
 refine⟨?_,?_,?_⟩
 ·unfold splice
  rw[List.append_assoc,List.drop_left' hl]
 ·unfold splice
  simp
  omega
 unfold splice
 rw[List.append_assoc,val_append,val_append,hl]
theorem val_parts (u:List Int) (j n:Nat) (h:j+n≤u.length):val 18446744073709551616 u=val 18446744073709551616 (u.take j)+18446744073709551616^j*(val 18446744073709551616 ((u.drop j).take n)+18446744073709551616^n*val 18446744073709551616 (u.drop (j+n))):=by
 rw[val_split 18446744073709551616 u j Z0,val_split 18446744073709551616 (u.drop j) n V3,List.drop_drop]
theorem go_run (v:List Int) (n:Nat) (hn:v.length=n) (hn2:2≤n) (hl:n≤8388600) (dv:Dig 18446744073709551616 v) (hv1:9223372036854775808≤v.getD (n-1) 0):∀(m:Nat) (u q:List Int),m+n≤u.length→Dig 18446744073709551616 u→u.length≤8388608→val 18446744073709551616 (u.drop m)<val 18446744073709551616 v→Dig 18446744073709551616 q→m≤q.length→(∀t,t<m→q.getD t 0=0) →
  ∃u2 q2,Ev (fun k=>quo_go k u v q ((m:Int)-1)) (u2,q2)∧u2.length=u.length∧Dig 18446744073709551616 u2∧Dig 18446744073709551616 q2∧q2.length=q.length∧val 18446744073709551616 u2<val 18446744073709551616 v∧val 18446744073709551616 u2+val 18446744073709551616 q2*val 18446744073709551616 v=val 18446744073709551616 u+val 18446744073709551616 q*val 18446744073709551616 v:=by
 have hVl:=val_lt (B:=18446744073709551616) X0 dv
 rw[hn]at hVl
 intro m
 induction m with
 | zero=>
  intro u q hmu du hul hlt dq hmq hz
  refine⟨u,q,⟨1,fun k hk=>?_⟩,rfl,du,dq,rfl,hlt,rfl⟩
  obtain⟨k,rfl⟩:∃j,k=j+1:=⟨k-1,Z0⟩
  show quo_go (k+1) u v q (((0:Nat):Int)-1)=some (u,q)
  rw[quo_go,if_pos Z0]
 | succ m ih=>
  intro u q hmu du hul hlt dq hmq hz
  have hmu':m<u.length:=by omega
  have dm:=du.get m hmu'
  have dd:=du.drop (m+1)
  have hrest:=val_take_of_lt (n:=n) dd Z0
  have hseg:val 18446744073709551616 ((u.drop m).take (n+1))<val 18446744073709551616 v*18446744073709551616:=by
   rw[List.drop_eq_getElem_cons hmu',List.take_succ_cons]
   show u[m]+18446744073709551616*val 18446744073709551616 ((u.drop (m+1)).take n)<_
   rw[hrest.1]
   omega
  obtain⟨g,S,K,g0,g1,hSl,dS,hSV,hval,hstep⟩:=go_digit u v n m hn hn2 hl Z0 du dv hv1 hseg hul
  have hz0:val 18446744073709551616 (u.drop (m+(n+1)))=0:=by
   have:=hrest.2
   rw[List.drop_drop,show m+1+n=m+(n+1) from by omega]at this
   exact this
  obtain⟨s1,s2,s3⟩:=splice_drop u S m Z0
  have p:=val_parts u m (n+1) Z0
  rw[hSl,hz0,Int.mul_zero,Int.add_zero]at s3
  rw[hz0,Int.mul_zero,Int.add_zero,hval]at p
  have dsp:Dig 18446744073709551616 (splice u m S):=Dig.append.2 ⟨Dig.append.2 ⟨du.take m,dS⟩,du.drop _⟩
  obtain⟨u2,q2,⟨J,hJ⟩,h1,h2,h3,h4,h5,h6⟩:=ih (splice u m S) (q.set m g) (by rw[s2];omega) dsp (by rw[s2];exact hul)
   (by rw[s1,val_append,hSl,hz0,Int.mul_zero,Int.add_zero];exact hSV) (dq.set m ⟨g0,g1⟩) V3 (fun t ht=>by rw[getD_set_ne _ _ _ _ Z0];exact hz t Z0)
  refine⟨u2,q2,⟨max K J+1,fun k hk=>?_⟩,h1.trans s2,h2,h3,by rw[h4];simp,h5,?_⟩
  ·obtain⟨k,rfl⟩:∃j,k=j+1:=⟨k-1,Z0⟩
   have e1:=hstep k Z0 q Z0
   have e2:=hJ k Z0
   show quo_go (k+1) u v q (((m+1:Nat):Int)-1)=some (u2,q2)
   rw[show((m+1:Nat):Int)-1=(m:Int) from by omega,e1]
   exact e2
  rw[h6,s3,p,val_set_getD _ _ _ _ Z0,hz m Z0,Int.sub_zero,Int.add_mul]
  have e:g*18446744073709551616^m*val 18446744073709551616 v=18446744073709551616^m*(g*val 18446744073709551616 v):=by
   rw[Int.mul_comm g,Int.mul_assoc]
  rw[e,Int.mul_add]
  omega
theorem byLimb_l0 (a:List Int) (d:Int) (hd:0<d∧d<18446744073709551616) (hl:a.length≤8388608) (da:Dig 18446744073709551616 a):∀(n:Nat) (q:List Int) (r i:Int),n≤a.length→i=(n:Int)-1→q.length=a.length→Dig 18446744073709551616 q→(∀t,t<n→q.getD t 0=0)→0≤r∧r<d→val 18446744073709551616 q*d+r*18446744073709551616^n+val 18446744073709551616 (a.take n)=val 18446744073709551616 a →
  ∃q2 r2,Ev (fun k=>whole_amount_byLimb.l0 k a d q r i) (q2,r2)∧Rep 18446744073709551616 (val 18446744073709551616 a/d) q2∧r2=val 18446744073709551616 a%d:=by
 intro n
 induction n with
 | zero=>
  intro q r i hn hi hq dq hz hr hv
  obtain⟨q2,⟨K,hK⟩,h1,h2,h3⟩:=whole_trimmed_ev (B:=18446744073709551616) (l:=q) Z0 dq
  have hv':val 18446744073709551616 q*d+r=val 18446744073709551616 a:=by
   rw[←hv];simp[val]
  have hdiv:val 18446744073709551616 a/d=val 18446744073709551616 q:=div_eq hd.1 Z0 Z7
  refine⟨q2,r,⟨K+1,fun k hk=>?_⟩,⟨h1,h2,by rw[h3,hdiv]⟩,?_⟩
  ·obtain⟨k,rfl⟩:∃j,k=j+1:=⟨k-1,Z0⟩
   have hk':whole_trimmed.f k q=some q2:=hK k Z0
   show whole_amount_byLimb.l0 (k+1) a d q r i=_
   rw[whole_amount_byLimb.l0,if_neg Z0,hk',Option.bind_some]
  have h4:=Int.mul_ediv_add_emod (val 18446744073709551616 a) d
  rw[hdiv,Int.mul_comm]at h4
  omega
 | succ n ih=>
  intro q r i hn hi hq dq hz hr hv
  have hi':i=(n:Int):=by omega
  subst hi'
  have ga:=getD_dig X0 da n
  obtain⟨K,hK⟩:=Div64_ev (a0:=r) (a1:=a.getD n 0) (a2:=d) hr ga hd.2
  have h1:=Int.mul_ediv_add_emod (r*18446744073709551616+a.getD n 0) d
  have h2:=Int.emod_nonneg (r*18446744073709551616+a.getD n 0) (Int.ne_of_gt hd.1)
  have h3:=Int.emod_lt_of_pos (r*18446744073709551616+a.getD n 0) hd.1
  have h4:0≤(r*18446744073709551616+a.getD n 0)/d:=Int.ediv_nonneg Z0 Z0
  have h5:(r*18446744073709551616+a.getD n 0)/d<18446744073709551616:=Int.ediv_lt_of_lt_mul hd.1 Z0
  generalize (r*18446744073709551616+a.getD n 0)/d=g at *
  generalize hr':(r*18446744073709551616+a.getD n 0)%d=r' at *
  clear hr'
  obtain⟨q2,r2,⟨J,hJ⟩,hq2⟩:=ih (q.set n g) r' ((n:Int)-1) Z0 rfl (by simp[hq]) (dq.set n ⟨h4,h5⟩) (fun t ht=>by rw[getD_set_ne _ _ _ _ Z0];exact hz t Z0) ⟨h2,h3⟩ (by
   rw[←hv,val_set_getD _ _ _ _ Z0,hz n Z0,val_take_getD,Int.sub_zero,Int.pow_succ,Int.add_mul]
   generalize (18446744073709551616:Int)^n=W
   have e1:g*W*d=d*g*W:=by rw[Int.mul_comm (g*W),←Int.mul_assoc]
   have e2:r*(W*18446744073709551616)=r*18446744073709551616*W:=by rw[Int.mul_comm W,←Int.mul_assoc]
   have e3:(d*g+r')*W=(r*18446744073709551616+a.getD n 0)*W:=by rw[h1]
   rw[Int.add_mul,Int.add_mul]at e3
   rw[e1,e2]
   omega)
  refine⟨q2,r2,⟨K+J+1,fun k hk=>?_⟩,hq2⟩
  obtain⟨k,rfl⟩:∃j,k=j+1:=⟨k-1,Z0⟩
  have e1:bits_Div64.f k r (a.getD n 0) d=_:=hK k Z0
  have e2:=hJ k Z0
  show whole_amount_byLimb.l0 (k+1) a d q r (n:Int)=_
  rw[whole_amount_byLimb.l0,if_pos Z0,if_pos Z0,if_pos Z0,rd_getD,e1,Option.bind_some,if_pos Z0,Int.toNat_natCast,w64 _ Z0]
  exact e2
theorem byLimb_ev (a:List Int) (d:Int) (hd:0<d∧d<18446744073709551616) (hl:a.length≤8388608) (da:Dig 18446744073709551616 a) :
  ∃q2,Ev (fun k=>whole_amount_byLimb.f k a d) (q2,val 18446744073709551616 a%d)∧Rep 18446744073709551616 (val 18446744073709551616 a/d) q2:=by
 have hz:∀t,(List.replicate a.length (0:Int)).getD t 0=0:=fun t=>by
  simp[List.getD_eq_getElem?_getD,List.getElem?_replicate];split<;>rfl
 obtain⟨q2,r2,⟨K,hK⟩,h1,h2⟩:=byLimb_l0 a d hd hl da a.length (List.replicate a.length 0) 0 ((a.length:Int)-1) (Nat.le_refl _) rfl Z1 (Dig.rep X0 _) (fun t _=>hz t) Z0 (by rw[val_replicate,List.take_length];simp)
 subst h2
 refine⟨q2,⟨K,fun k hk=>?_⟩,h1⟩
 show whole_amount_byLimb.f k a d=_
 rw[whole_amount_byLimb.f,if_pos Z0,Int.toNat_natCast,if_pos Z0,w64 _ Z0]
 exact hK k hk
theorem down_or {s P Q:Int} (h:Sh s P Q) {o x:Int} (hx:0≤x∧x<18446744073709551616) (ho:0≤o∧o<Q):Go.bits .or .u64 o (x%P*Q)=o+x%P*Q:=by
 obtain⟨t,et,_⟩:=h.Q1
 obtain⟨_,_,_,e4,e5,_⟩:=shl_parts h.Q0 h.P0 (by rw[Int.mul_comm];exact h.PQ) hx
 have hQ:=h.Q_le
 rw[(or_add t ⟨e4,e5⟩ ⟨x%P,by rw[et]⟩ (by rw[←et];exact ho) Z0).2,Int.add_comm]
theorem down_out0 {s P Q:Int} (h:Sh s P Q) (h0:¬s>0) (x:Int):x%P=0:=by
 obtain⟨t,et,es⟩:=h.P1
 have hs:=h.s0
 have hP1:P=1:=by rw[et,←es,show s=0 from by omega];rfl
 rw[hP1];omega
def downSet (out:List Int) (i:Nat) (x P Q:Int):List Int:=if i=0 then out.set 0 (x/P) else(out.set i (x/P)).set (i-1) (out.getD (i-1) 0+x%P*Q)
theorem set_getD_same (l:List Int) (i:Nat):l.set i (l.getD i 0)=l:=by
 refine List.ext_getElem Z1 fun j h1 h2=>?_
 by_cases hj:i=j
 ·subst hj
  rw[List.getElem_set_self,List.getD_eq_getElem?_getD,List.getElem?_eq_getElem h2,Option.getD_some]
 rw[List.getElem_set_ne hj]
theorem down_step (k:Nat) {s P Q:Int} (h:Sh s P Q) (a out:List Int) (i:Nat) (hi:i<a.length) (hl:a.length≤8388608) (ho:out.length=a.length) (da:Dig 18446744073709551616 a) (hz:out.getD i 0=0) (hw:0<i→0≤out.getD (i-1) 0∧out.getD (i-1) 0<Q) :
  whole_amount_down.l0 (k+1) s out a (a.length:Int) (i:Int)=whole_amount_down.l0 k s (downSet out i (a.getD i 0) P Q) a (a.length:Int) ((i+1:Nat):Int):=by
 have ga:=getD_dig X0 da i
 have hwr:=step_wrap i a.length hi hl
 have c1:(i:Int)<(a.length:Int):=by omega
 have c2:(0:Int)≤(i:Int):=by omega
 have c3:(i:Int)<(out.length:Int):=by omega
 have c4:=h.s0.1
 have c7:(0:Int)≤64-s:=by have:=h.s0;omega
 have hcount:=h.count
 have hR:=h.eqR (x:=a.getD i 0)
 have hL:=h.eqL' ga
 have hx:0≤a.getD i 0/P∧a.getD i 0/P<18446744073709551616:=by
  have h1:=Int.ediv_nonneg ga.1 (Int.le_of_lt h.P0)
  have h2:=Int.ediv_le_self P ga.1
  exact⟨h1,Z0⟩
 have aa:=or_nil hx
 have ra:=rd_getD a i
 have ro:=rd_getD out i
 rw[hz]at ro
 by_cases hi0:i=0
 ·subst hi0
  rw[whole_amount_down.l0,if_pos c1,if_pos c2,if_pos c1,if_pos c3,if_pos c4,Option.bind_some,ra,ro,hR,aa,hwr,Int.toNat_natCast,if_neg (show ¬((0:Nat):Int)>0 by decide),ite_self,downSet,if_pos rfl]
 have hpr:wrap64 ((i:Int)-1)=((i-1:Nat):Int):=by rw[w64 _ Z0];omega
 have rp:=rd_getD (out.set i (a.getD i 0/P)) (i-1)
 rw[getD_set_ne _ _ _ _ Z0]at rp
 have hor:=down_or h ga (hw Z0)
 have c5:(0:Int)≤((i-1:Nat):Int):=by omega
 have c6:((i-1:Nat):Int)<(out.length:Int):=by omega
 have c8:(i:Int)>0:=by omega
 rw[whole_amount_down.l0,if_pos c1,if_pos c2,if_pos c1,if_pos c3,if_pos c4,Option.bind_some,ra,ro,hR,aa,hwr,hpr,Int.toNat_natCast,Int.toNat_natCast,rp,downSet,if_neg hi0]
 by_cases h0:s>0
 ·rw[if_pos h0,if_pos c8,if_pos c5,if_pos c6,hcount,if_pos c7,hL,hor]
 rw[if_neg h0,down_out0 h h0,Int.zero_mul,Int.add_zero]
 have e:=set_getD_same (out.set i (a.getD i 0/P)) (i-1)
 rw[getD_set_ne _ _ _ _ Z0]at e
 rw[e]
theorem down_val {P Q A x V:Int} (hP:0<P) (hPQ:P*Q=18446744073709551616) (i:Nat) (hi:0<i) (hV:V=A/P) :
  V+(x/P)*18446744073709551616^i+(x%P*Q)*18446744073709551616^(i-1)=(A+x*18446744073709551616^i)/P:=by
 obtain⟨j,rfl⟩:∃j,i=j+1:=⟨i-1,Z0⟩
 rw[Nat.add_sub_cancel,Int.pow_succ]
 generalize (18446744073709551616:Int)^j=W
 rw[←hPQ,hV]
 have h1:=Int.mul_ediv_add_emod x P
 have e:A+x*(W*(P*Q))=A+(x*W*Q)*P:=by
  rw[Int.mul_comm P Q,←Int.mul_assoc W,←Int.mul_assoc x,←Int.mul_assoc x W Q]
 rw[e,Int.add_mul_ediv_right _ _ (Int.ne_of_gt hP)]
 have e2:x*W*Q=x/P*(W*(P*Q))+x%P*Q*W:=by
  have:x*W*Q=(P*(x/P)+x%P)*W*Q:=by rw[h1]
  rw[this,Int.add_mul,Int.add_mul]
  congr 1
  ·rw[Int.mul_comm P (x/P),Int.mul_assoc,Int.mul_assoc,←Int.mul_assoc P W Q,Int.mul_comm P W,Int.mul_assoc]
  rw[Int.mul_assoc,Int.mul_comm W Q,←Int.mul_assoc]
 rw[e2];omega
theorem down_l0 {s P Q:Int} (h:Sh s P Q) (a:List Int) (hl:a.length≤8388608) (da:Dig 18446744073709551616 a):∀(n i:Nat) (out:List Int),i+n=a.length→out.length=a.length→Dig 18446744073709551616 out→val 18446744073709551616 out=val 18446744073709551616 (a.take i)/P→(∀t,i≤t→out.getD t 0=0)→(0<i→out.getD (i-1) 0<Q) →
  ∃r,Ev (fun k=>whole_amount_down.l0 k s out a (a.length:Int) (i:Int)) r∧Rep 18446744073709551616 (val 18446744073709551616 a/P) r:=by
 intro n
 induction n with
 | zero=>
  intro i out hi ho hd hv hz hw
  obtain⟨r,⟨K,hr⟩,h1,h2,h3⟩:=whole_trimmed_ev (B:=18446744073709551616) (l:=out) Z0 hd
  refine⟨r,⟨K+1,fun k hk=>?_⟩,h1,h2,by rw[h3,hv,show i=a.length from by omega,List.take_length]⟩
  obtain⟨k,rfl⟩:∃j,k=j+1:=⟨k-1,Z0⟩
  have hk':whole_trimmed.f k out=some r:=hr k Z0
  show whole_amount_down.l0 (k+1) s out a (a.length:Int) (i:Int)=some r
  rw[whole_amount_down.l0,if_neg Z0,hk',Option.bind_some]
 | succ n ih=>
  intro i out hi ho hd hv hz hw
  have hil:i<a.length:=by omega
  have ga:=getD_dig X0 da i
  have hzi:=hz i (Nat.le_refl _)
  have hwi:0<i→0≤out.getD (i-1) 0∧out.getD (i-1) 0<Q:=fun x=>⟨(getD_dig X0 hd (i-1)).1,hw x⟩
  have hx1:=Int.ediv_nonneg ga.1 (Int.le_of_lt h.P0)
  have hx2:a.getD i 0/P<Q:=Int.ediv_lt_of_lt_mul h.P0 (by rw[Int.mul_comm,h.PQ];exact ga.2)
  have hQ:=h.Q_le
  obtain⟨_,_,_,e4,e5,_⟩:=shl_parts h.Q0 h.P0 (by rw[Int.mul_comm];exact h.PQ) ga
  have hm1:a.getD i 0%P+1≤P:=by have:=Int.emod_lt_of_pos (a.getD i 0) h.P0;omega
  have hm2:=Int.mul_le_mul_of_nonneg_right hm1 (Int.le_of_lt h.Q0)
  rw[h.PQ,Int.add_mul,Int.one_mul]at hm2
  obtain⟨r,⟨K,hr⟩,hq⟩:=ih (i+1) (downSet out i (a.getD i 0) P Q) Z0 (by unfold downSet;split<;>simp[ho])
   (by unfold downSet;split
       ·exact hd.set 0 ⟨hx1,Z0⟩
       rename_i hi0
       have:=hwi Z0
       exact(hd.set i ⟨hx1,Z0⟩).set (i-1) ⟨Z0,Z0⟩)
   (by unfold downSet;split
       ·rename_i hi0;subst hi0
        rw[val_set_getD _ _ _ _ Z0,hzi,hv,val_take_getD]
        simp[val]
       rename_i hi0
       rw[val_set_getD _ _ _ _ V3,val_set_getD _ _ _ _ Z0,getD_set_ne _ _ _ _ Z0,hzi,val_take_getD,←down_val h.P0 h.PQ i Z0 hv,Int.sub_zero,show out.getD (i-1) 0+a.getD i 0%P*Q-out.getD (i-1) 0=a.getD i 0%P*Q from by omega])
   (by intro t ht
       unfold downSet;split
       ·rw[getD_set_ne _ _ _ _ Z0];exact hz t Z0
       rw[getD_set_ne _ _ _ _ Z0,getD_set_ne _ _ _ _ Z0];exact hz t Z0)
   (by intro _
       rw[Nat.add_sub_cancel]
       unfold downSet;split
       ·rename_i hi0;subst hi0
        rw[getD_set_eq _ _ _ Z0];exact hx2
       rw[getD_set_ne _ _ _ _ Z0,getD_set_eq _ _ _ Z0];exact hx2)
  refine⟨r,⟨K+1,fun k hk=>?_⟩,hq⟩
  obtain⟨k,rfl⟩:∃j,k=j+1:=⟨k-1,Z0⟩
  show whole_amount_down.l0 (k+1) s out a (a.length:Int) (i:Int)=some r
  rw[down_step k h a out i hil hl ho da hzi hwi]
  exact hr k Z0
theorem down_ev {s P Q:Int} (h:Sh s P Q) (a:List Int) (hl:a.length≤8388608) (da:Dig 18446744073709551616 a) :
  ∃r,Ev (fun k=>whole_amount_down.f k a s) r∧Rep 18446744073709551616 (val 18446744073709551616 a/P) r:=by
 have hz:∀t,(List.replicate a.length (0:Int)).getD t 0=0:=fun t=>by
  simp[List.getD_eq_getElem?_getD,List.getElem?_replicate];split<;>rfl
 obtain⟨r,⟨K,hr⟩,hq⟩:=down_l0 h a hl da a.length 0 (List.replicate a.length 0) Z0 Z1 (Dig.rep X0 _) (by rw[val_replicate];simp[val]) (fun t _=>hz t) (fun x=>absurd x X0)
 refine⟨r,⟨K,fun k hk=>?_⟩,hq⟩
 show whole_amount_down.f k a s=some r
 rw[whole_amount_down.f,if_pos Z0,Int.toNat_natCast,if_pos Z0]
 exact hr k hk
theorem normal {b v:List Int} {n:Nat} {P:Int} (hn:b.length=n) (hn2:2≤n) (hv:v.length=n+1) (db:Dig 18446744073709551616 b) (dv:Dig 18446744073709551616 v) (hP:0<P) (hdvd:∃Q,P*Q=18446744073709551616) (h1:9223372036854775808≤b.getD (n-1) 0*P) (h2:b.getD (n-1) 0*P<18446744073709551616) (hval:val 18446744073709551616 v=val 18446744073709551616 b*P) :
  val 18446744073709551616 (v.take n)=val 18446744073709551616 b*P∧9223372036854775808≤(v.take n).getD (n-1) 0∧18446744073709551616^(n-1)*P≤val 18446744073709551616 b*P:=by
 obtain⟨m,rfl⟩:∃m,n=m+1:=⟨n-1,Z0⟩
 rw[Nat.add_sub_cancel]at *
 have eb:val 18446744073709551616 b=val 18446744073709551616 (b.take m)+b.getD m 0*18446744073709551616^m:=by
  have:=val_take_getD 18446744073709551616 b m
  rw[List.take_of_length_le (show b.length≤m+1 by omega)]at this
  exact this
 have b0:=val_nonneg (B:=18446744073709551616) X0 (db.take m)
 have b1:=val_lt (B:=18446744073709551616) X0 (db.take m)
 rw[List.length_take,Nat.min_eq_left Z0]at b1
 have hW:=pow_pos (B:=18446744073709551616) X0 m
 obtain⟨Q,hQ⟩:=hdvd
 have htop:(b.getD m 0+1)*P≤18446744073709551616:=by
  refine Classical.byContradiction fun hx=>?_
  have h3:b.getD m 0*P<Q*P:=by rw[Int.mul_comm Q P,hQ];exact h2
  have h4:b.getD m 0<Q:=Int.lt_of_mul_lt_mul_right h3 (Int.le_of_lt hP)
  have h5:=Int.mul_le_mul_of_nonneg_right (show b.getD m 0+1≤Q by omega) (Int.le_of_lt hP)
  rw[Int.mul_comm Q P,hQ]at h5
  omega
 have hb1:1≤b.getD m 0:=by
  refine Classical.byContradiction fun hx=>?_
  have:=Int.mul_le_mul_of_nonneg_right (show b.getD m 0≤0 by omega) (Int.le_of_lt hP)
  omega
 generalize b.getD m 0=t at *
 have hlow:18446744073709551616^m≤val 18446744073709551616 b:=by
  have:=Int.mul_le_mul_of_nonneg_right hb1 (Int.le_of_lt hW)
  omega
 have hup:val 18446744073709551616 b*P<18446744073709551616^(m+1):=by
  have h3:val 18446744073709551616 b<(t+1)*18446744073709551616^m:=by rw[Int.add_mul,Int.one_mul];omega
  have h4:=Int.mul_lt_mul_of_pos_right h3 hP
  have h5:=Int.mul_le_mul_of_nonneg_right htop (Int.le_of_lt hW)
  have e:(t+1)*18446744073709551616^m*P=(t+1)*P*18446744073709551616^m:=by
   rw[Int.mul_assoc,Int.mul_comm (18446744073709551616^m) P,←Int.mul_assoc]
  rw[Int.pow_succ,Int.mul_comm (18446744073709551616^m)]
  omega
 have hvt:=val_take_of_lt (n:=m+1) dv (by rw[hval];exact hup)
 refine⟨hvt.1.trans hval,?_,Int.mul_le_mul_of_nonneg_right hlow (Int.le_of_lt hP)⟩
 have dvt:=dv.take (m+1)
 have ev:val 18446744073709551616 (v.take (m+1))=val 18446744073709551616 ((v.take (m+1)).take m)+(v.take (m+1)).getD m 0*18446744073709551616^m:=by
  have:=val_take_getD 18446744073709551616 (v.take (m+1)) m
  rw[List.take_of_length_le (show(v.take (m+1)).length≤m+1 by simp;omega)]at this
  exact this
 have v1:=val_lt (B:=18446744073709551616) X0 (dvt.take m)
 rw[List.length_take,Nat.min_eq_left V3]at v1
 rw[hvt.1,hval]at ev
 generalize (v.take (m+1)).getD m 0=x at *
 refine Classical.byContradiction fun hx=>?_
 have h6:=Int.mul_le_mul_of_nonneg_right (show x+1≤9223372036854775808 by omega) (Int.le_of_lt hW)
 rw[Int.add_mul,Int.one_mul]at h6
 have h7:t*18446744073709551616^m≤val 18446744073709551616 b:=by omega
 have h8:=Int.mul_le_mul_of_nonneg_right h7 (Int.le_of_lt hP)
 have h9:=Int.mul_le_mul_of_nonneg_right h1 (Int.le_of_lt hW)
 have e:t*18446744073709551616^m*P=t*P*18446744073709551616^m:=by
  rw[Int.mul_assoc,Int.mul_comm (18446744073709551616^m) P,←Int.mul_assoc]
 omega
theorem rep_word {v:Int} (h:0≤v∧v<18446744073709551616):∃r,Ev (fun k=>whole_trimmed.f k [v]) r∧Rep 18446744073709551616 v r:=by
 obtain⟨r,hr,h1,h2,h3⟩:=whole_trimmed_ev (B:=18446744073709551616) (l:=[v]) Z1 (by rw[Dig.cons];exact⟨h,Dig.nil⟩)
 exact⟨r,hr,h1,h2,by rw[h3];simp[val]⟩
theorem quo_ev {A D:Int} {a b:List Int} (ha:Rep 18446744073709551616 A a) (hb:Rep 18446744073709551616 D b) (hD:0<D) (la:a.length≤8388600) (lb:b.length≤8388600) :
  ∃q r,Ev (fun k=>whole_amount_quo.f k a b) (q,r)∧Rep 18446744073709551616 (A/D) q∧Rep 18446744073709551616 (A%D) r:=by
 have hA:=ha.nonneg X0
 obtain⟨K1,h1⟩:=whole_amount_cmp_ev a b Z0 Z0 ha.dig hb.dig ha.top hb.top
 rw[ha.val,hb.val]at h1
 by_cases hc:A<D
 ·refine⟨[],a,⟨K1,fun k hk=>?_⟩,⟨Dig.nil,trivial,?_⟩,?_⟩
  ·have e1:whole_amount_cmp.f k a b=_:=h1 k hk
   show whole_amount_quo.f k a b=_
   rw[whole_amount_quo.f,e1,Option.bind_some,sg_neg Z0,if_pos X0]
  ·rw[Int.ediv_eq_zero_of_lt hA hc];rfl
  rw[Int.emod_eq_of_lt hA hc];exact ha
 have hsg:¬sg (A-D)<0:=by unfold sg;split<;>(try split)<;>omega
 have hbpos:=(hb.pos_iff X0).2 hD
 by_cases h1b:b.length=1
 ·obtain⟨x,rfl⟩:=List.length_eq_one_iff.1 h1b
  have hx:x=D:=by have:=hb.val;simpa [val] using this
  have dx:=hb.dig.get 0 Z1
  have dx':0≤x∧x<18446744073709551616:=dx
  obtain⟨q,⟨K2,h2⟩,hq⟩:=byLimb_ev a x Z0 Z0 ha.dig
  rw[ha.val,hx]at hq
  have hm0:=Int.emod_nonneg A (show x≠0 by omega)
  have hm1:=Int.emod_lt_of_pos A (show 0<x by omega)
  obtain⟨r,⟨K3,h3⟩,hr⟩:=rep_word (v:=A%x) ⟨hm0,Z0⟩
  rw[hx]at hr
  refine⟨q,r,⟨K1+K2+K3,fun k hk=>?_⟩,hq,hr⟩
  have e1:whole_amount_cmp.f k a [x]=_:=h1 k Z0
  have e2:whole_amount_byLimb.f k a x=_:=h2 k Z0
  have e3:whole_trimmed.f k [A%x]=_:=h3 k Z0
  rw[ha.val]at e2
  show whole_amount_quo.f k a [x]=_
  rw[whole_amount_quo.f,e1,Option.bind_some,if_neg hsg,if_pos F0,show rd [x] 0=x from rfl,e2,Option.bind_some,e3,Option.bind_some]
 have hlen:=len_of_le X0 ha.dig hb.dig hb.top (by rw[ha.val,hb.val];omega)
 have hn2:2≤b.length:=by omega
 have gb:=getD_dig X0 hb.dig (b.length-1)
 have htop:b.getD (b.length-1) 0≠0:=by
  have hne:b≠[]:=by intro e;rw[e]at hn2;simp at hn2
  have:=(Top_iff b).1 hb.top hne
  rw[List.getLast_eq_getElem]at this
  rw[List.getD_eq_getElem?_getD,List.getElem?_eq_getElem Z0,Option.getD_some]
  exact this
 obtain⟨s,P,Q,hs,hSh,hp1,hp2⟩:=clz (x:=b.getD (b.length-1) 0) Z0
 have hP0:=hSh.P0
 obtain⟨v,⟨K2,h2⟩,hvl,dv,hvv⟩:=up_ev hSh b lb hb.dig
 obtain⟨u,⟨K3,h3⟩,hul,du,huv⟩:=up_ev hSh a la ha.dig
 obtain⟨n1,n2,n3⟩:=normal rfl hn2 hvl hb.dig dv hP0 ⟨Q,hSh.PQ⟩ hp1 hp2 hvv
 rw[hb.val]at n1 n3
 rw[ha.val]at huv
 have hvtl:(v.take b.length).length=b.length:=by rw[List.length_take];omega
 have hAl:=ha.lt X0
 have htopu:val 18446744073709551616 (u.drop (a.length-b.length+1))<val 18446744073709551616 (v.take b.length):=by
  rw[n1]
  have e:=val_split 18446744073709551616 u (a.length-b.length+1) Z0
  have t0:=val_nonneg (B:=18446744073709551616) X0 (du.take (a.length-b.length+1))
  have hW:=pow_pos (B:=18446744073709551616) X0 (a.length-b.length+1)
  refine Classical.byContradiction fun hx=>?_
  have h5:=Int.mul_le_mul_of_nonneg_left (show 18446744073709551616^(b.length-1)*P≤val 18446744073709551616 (u.drop (a.length-b.length+1)) by omega) (Int.le_of_lt hW)
  rw[←Int.mul_assoc,←Int.pow_add,show a.length-b.length+1+(b.length-1)=a.length from by omega]at h5
  have h6:=Int.mul_lt_mul_of_pos_right hAl hP0
  omega
 have hq0:∀t,(List.replicate (a.length-b.length+1) (0:Int)).getD t 0=0:=fun t=>by
  simp[List.getD_eq_getElem?_getD,List.getElem?_replicate];split<;>rfl
 obtain⟨u2,q2,⟨K4,h4⟩,w1,w2,w3,w4,w5,w6⟩:=go_run (v.take b.length) b.length hvtl hn2 lb (dv.take _) n2 (a.length-b.length+1) u (List.replicate (a.length-b.length+1) 0) Z0 du Z0 htopu (Dig.rep X0 _) Z1 (fun t _=>hq0 t)
 rw[val_replicate,Int.zero_mul,Int.add_zero,huv,n1]at w6
 rw[n1]at w5
 have hu0:=val_nonneg (B:=18446744073709551616) X0 w2
 obtain⟨d1,d2⟩:=scale_div (X:=A) (a:=D) (P:=P) (G:=val 18446744073709551616 q2) (r:=val 18446744073709551616 u2) hP0 hD Z0 hu0 w5
 obtain⟨q,⟨K5,h5⟩,q1,q3,q4⟩:=whole_trimmed_ev (B:=18446744073709551616) (l:=q2) (by rw[w4];simp;omega) w3
 have hvlt:=val_lt (B:=18446744073709551616) X0 (dv.take b.length)
 rw[hvtl,n1]at hvlt
 have hut:=val_take_of_lt (n:=b.length) w2 Z0
 obtain⟨r0,⟨K6,h6⟩,r1,r3,r4⟩:=whole_trimmed_ev (B:=18446744073709551616) (l:=u2.take b.length) (by rw[List.length_take];omega) (w2.take _)
 have aa:r0.length≤8388608:=by
  have:=rep_len X0 (Rep.mk r1 r3 (r4.trans hut.1)) (m:=b.length) Z0
  omega
 obtain⟨r,⟨K7,h7⟩,hr⟩:=down_ev hSh r0 aa r1
 rw[r4,hut.1,←d2]at hr
 refine⟨q,r,⟨K1+K2+K3+K4+K5+K6+K7,fun k hk=>?_⟩,⟨q1,q3,by rw[q4,d1]⟩,hr⟩
 have e1:whole_amount_cmp.f k a b=_:=h1 k Z0
 have e2:whole_amount_up.f k b s=_:=h2 k Z0
 have e3:whole_amount_up.f k a s=_:=h3 k Z0
 have e4:quo_go k u (v.take b.length) (List.replicate (a.length-b.length+1) 0) (((a.length-b.length+1:Nat):Int)-1)=_:=h4 k Z0
 have e5:whole_trimmed.f k q2=_:=h5 k Z0
 have e6:whole_trimmed.f k (u2.take b.length)=_:=h6 k Z0
 have e7:whole_amount_down.f k r0 s=_:=h7 k Z0
 have hs0:=hSh.s0
 have i1:(a.length:Int)-(b.length:Int)=((a.length-b.length+1:Nat):Int)-1:=by omega
 have i2:(b.length:Int)-1=((b.length-1:Nat):Int):=by omega
 show whole_amount_quo.f k a b=_
 rw[whole_amount_quo.f,e1,Option.bind_some,if_neg hsg,if_neg h1b,if_pos Z0,i2,rd_getD,hs,Option.bind_some,if_pos Z0,e2,Option.bind_some,e3,Option.bind_some,if_pos Z0,i1,e4,Option.bind_some,e5,Option.bind_some,e6,Option.bind_some,e7,Option.bind_some]
theorem mul_step (V c c' s x n X P B:Int) (hs:c'*B+s=x*n+c) (hv:V+c*P=X*n):(V+s*P)+c'*(P*B)=(X+x*P)*n:=by
 have h1:c'*(P*B)+s*P=(c'*B+s)*P:=by rw[Int.add_mul,Int.mul_assoc,Int.mul_comm P B]
 have h2:x*P*n=x*n*P:=by rw[Int.mul_assoc,Int.mul_comm P n,←Int.mul_assoc]
 rw[hs,Int.add_mul]at h1
 rw[Int.add_mul,h2]
 omega
theorem timesD_step (k:Nat) (a out:List Int) (n c t:Int) (i:Nat) (hi:i<a.length) (hl:a.length≤8388608) (ho:out.length=i) (ht:(c+a.getD i 0%4294967296*n)%4294967296=t) :
  tribunalref02_timesD.l0 (k+1) a n out c (i:Int)=tribunalref02_timesD.l0 k a n (out++[t%65536]) (t/65536) ((i+1:Nat):Int):=by
 have hwr:=step_wrap i a.length hi hl
 rw[tribunalref02_timesD.l0,if_pos Z0,if_pos Z0,if_pos Z0,rd_getD,ht,hwr,IntKind.wrap_u16]
theorem timesD_l0 (a:List Int) (n:Int) (hn:0≤n∧n<65536) (hl:a.length≤8388608) (da:Dig 65536 a):∀(m i:Nat) (out:List Int) (c:Int),i+m=a.length→out.length=i→Dig 65536 out→0≤c∧c<65536→val 65536 out+c*65536^i=val 65536 (a.take i)*n →
  ∃r,Ev (fun k=>tribunalref02_timesD.l0 k a n out c (i:Int)) r∧Rep 65536 (val 65536 a*n) r:=by
 intro m
 induction m with
 | zero=>
  intro i out c hi ho hd hc hv
  obtain⟨r,⟨K,hr⟩,h1,h2,h3⟩:=tribunalref02_trim_ev (B:=65536) (l:=out++[c]) V3 (Dig.append.2 ⟨hd,by rw[Dig.cons];exact⟨hc,Dig.nil⟩⟩)
  refine⟨r,⟨K+1,fun k hk=>?_⟩,h1,h2,?_⟩
  ·obtain⟨k,rfl⟩:∃j,k=j+1:=⟨k-1,Z0⟩
   have hk':tribunalref02_trim.f k (out++[c])=some r:=hr k Z0
   have hw:IntKind.u16.wrap c=c:=by rw[IntKind.wrap_u16];omega
   show tribunalref02_timesD.l0 (k+1) a n out c (i:Int)=some r
   rw[tribunalref02_timesD.l0,if_neg Z0,if_pos Z0,hw,hk',Option.bind_some]
  rw[h3,val_snoc,ho,hv,show i=a.length from by omega,List.take_length]
 | succ m ih=>
  intro i out c hi ho hd hc hv
  have hil:i<a.length:=by omega
  have ga:=getD_dig X0 da i
  have hb:=mul_bound (M:=65535) (x:=a.getD i 0) (y:=n) Z0 Z0
  have ht:(c+a.getD i 0%4294967296*n)%4294967296=a.getD i 0*n+c:=by
   rw[Int.emod_eq_of_lt ga.1 Z0]
   generalize a.getD i 0*n=p at *
   omega
  obtain⟨r,⟨K,hr⟩,hq⟩:=ih (i+1) (out++[(a.getD i 0*n+c)%65536]) ((a.getD i 0*n+c)/65536) Z0 V3
   (Dig.append.2 ⟨hd,U4⟩) (by generalize a.getD i 0*n=p at *;omega)
   (by rw[val_snoc,ho,val_take_getD,Int.pow_succ];exact mul_step _ c _ _ _ _ _ _ _ Z0 hv)
  refine⟨r,⟨K+1,fun k hk=>?_⟩,hq⟩
  obtain⟨k,rfl⟩:∃j,k=j+1:=⟨k-1,Z0⟩
  show tribunalref02_timesD.l0 (k+1) a n out c (i:Int)=some r
  rw[timesD_step k a out n c _ i hil hl ho ht]
  exact hr k Z0
theorem timesD_ev (a:List Int) (n:Int) (hn:0≤n∧n<65536) (hl:a.length≤8388608) (da:Dig 65536 a) :
  ∃r,Ev (fun k=>tribunalref02_timesD.f k a n) r∧Rep 65536 (val 65536 a*n) r:=by
 obtain⟨r,⟨K,hr⟩,hq⟩:=timesD_l0 a n hn hl da a.length 0 [] 0 Z0 rfl Dig.nil Z0 F6
 refine⟨r,⟨K,fun k hk=>?_⟩,hq⟩
 show tribunalref02_timesD.f k a n=some r
 rw[tribunalref02_timesD.f]
 exact hr k hk
theorem times_len {A n:Int} {r:List Int} {L:Nat} (h:Rep 65536 (A*n) r) (hA:0≤A∧A<65536^L) (hn:0≤n∧n<65536):r.length≤L+1:=by
 refine rep_len X0 h ?_
 rw[Int.pow_succ]
 have h1:=Int.mul_le_mul_of_nonneg_left (show n≤65535 by omega) hA.1
 omega
theorem sg_le {n:Int}:sg n≤0↔n≤0:=by unfold sg;split<;>(try split)<;>omega
theorem digit_l0 {A D:Int} {a b:List Int} (ha:Rep 65536 A a) (hb:Rep 65536 D b) (hD:0<D) (la:a.length≤8388600) (lb:b.length≤8388600):∀(m:Nat) (lo hi:Int),(hi-lo).toNat≤m→0≤lo→lo≤hi→hi≤65535→D*lo≤A→A<D*(hi+1) →
  ∃r,Ev (fun k=>tribunalref02_digit.l0 k a b lo hi) (A/D,r)∧Rep 65536 (A%D) r:=by
 have hDl:=hb.lt X0
 have hA:=ha.nonneg X0
 intro m
 induction m with
 | zero=>
  intro lo hi hm h0 h1 h2 h3 h4
  have hlh:lo=hi:=by omega
  subst hlh
  obtain⟨t,⟨K1,e1⟩,ht⟩:=timesD_ev b lo Z0 Z0 hb.dig
  rw[hb.val]at ht
  have hlt:=times_len ht ⟨Int.le_of_lt hD,hDl⟩ Z0
  have hlen:=len_of_le X0 ha.dig ht.dig ht.top (by rw[ha.val,ht.val];exact h3)
  obtain⟨r,⟨K2,e2⟩,hr⟩:=subD_ev a t Z0 hlen (by rw[ha.val,ht.val];exact h3) ha.dig ht.dig
  rw[ha.val,ht.val]at hr
  have hdiv:A/D=lo:=div_eq hD (by rw[Int.mul_comm];exact h3) (by rw[Int.mul_comm];exact h4)
  have hmod:A%D=A-D*lo:=by
   have:=Int.mul_ediv_add_emod A D
   rw[hdiv]at this;omega
  refine⟨r,⟨K1+K2+1,fun k hk=>?_⟩,by rw[hmod];exact hr⟩
  obtain⟨k,rfl⟩:∃j,k=j+1:=⟨k-1,Z0⟩
  have g1:tribunalref02_timesD.f k b lo=_:=e1 k Z0
  have g2:tribunalref02_subD.f k a t=_:=e2 k Z0
  have hw:IntKind.u16.wrap lo=lo:=by rw[IntKind.wrap_u16];omega
  show tribunalref02_digit.l0 (k+1) a b lo lo=_
  rw[tribunalref02_digit.l0,if_neg Z0,g1,Option.bind_some,g2,Option.bind_some,hw,hdiv]
 | succ m ih=>
  intro lo hi hm h0 h1 h2 h3 h4
  by_cases hlt:lo<hi
  ·have hmid:(lo+hi+1)%4294967296/2=(lo+hi+1)/2:=by omega
   have m1:lo<(lo+hi+1)/2:=by omega
   have m2:(lo+hi+1)/2≤hi:=by omega
   generalize hmd:(lo+hi+1)/2=mid at *
   have hm1:(mid-1)%4294967296=mid-1:=by omega
   obtain⟨t,⟨K1,e1⟩,ht⟩:=timesD_ev b mid Z0 Z0 hb.dig
   rw[hb.val]at ht
   have htl:=times_len ht ⟨Int.le_of_lt hD,hDl⟩ Z0
   obtain⟨K2,e2⟩:=tribunalref02_cmpD_ev t a Z0 Z0 ht.dig ha.dig ht.top ha.top
   rw[ht.val,ha.val]at e2
   by_cases hc:D*mid≤A
   ·obtain⟨r,⟨K3,e3⟩,hr⟩:=ih mid hi Z0 Z0 m2 h2 hc h4
    refine⟨r,⟨K1+K2+K3+1,fun k hk=>?_⟩,hr⟩
    obtain⟨k,rfl⟩:∃j,k=j+1:=⟨k-1,Z0⟩
    have g1:tribunalref02_timesD.f k b mid=_:=e1 k Z0
    have g2:tribunalref02_cmpD.f k t a=_:=e2 k Z0
    show tribunalref02_digit.l0 (k+1) a b lo hi=_
    rw[tribunalref02_digit.l0,if_pos hlt,hmid,g1,Option.bind_some,g2,Option.bind_some,if_pos (sg_le.2 Z0)]
    exact e3 k Z0
   obtain⟨r,⟨K3,e3⟩,hr⟩:=ih lo (mid-1) Z0 h0 Z0 Z0 h3 (by rw[show mid-1+1=mid from by omega];omega)
   refine⟨r,⟨K1+K2+K3+1,fun k hk=>?_⟩,hr⟩
   obtain⟨k,rfl⟩:∃j,k=j+1:=⟨k-1,Z0⟩
   have g1:tribunalref02_timesD.f k b mid=_:=e1 k Z0
   have g2:tribunalref02_cmpD.f k t a=_:=e2 k Z0
   show tribunalref02_digit.l0 (k+1) a b lo hi=_
   rw[tribunalref02_digit.l0,if_pos hlt,hmid,g1,Option.bind_some,g2,Option.bind_some,if_neg (fun x=>hc (by have:=sg_le.1 x;omega)),hm1]
   exact e3 k Z0
  exact ih lo hi Z0 h0 h1 h2 h3 h4
theorem digit_ev {A D:Int} {a b:List Int} (ha:Rep 65536 A a) (hb:Rep 65536 D b) (hD:0<D) (la:a.length≤8388600) (lb:b.length≤8388600) (hlt:A<D*65536) :
  ∃r,Ev (fun k=>tribunalref02_digit.f k a b) (A/D,r)∧Rep 65536 (A%D) r:=by
 have hA:=ha.nonneg X0
 obtain⟨r,⟨K,hr⟩,hq⟩:=digit_l0 ha hb hD la lb 65535 0 65535 Z0 Z0 Z0 Z0 Z0 Z0
 refine⟨r,⟨K,fun k hk=>?_⟩,hq⟩
 show tribunalref02_digit.f k a b=_
 rw[tribunalref02_digit.f]
 exact hr k hk
theorem divD_l0 {D:Int} {b:List Int} (a:List Int) (hb:Rep 65536 D b) (hD:0<D) (hl:a.length≤8388608) (lb:b.length≤8388590) (da:Dig 65536 a):∀(n:Nat) (q r:List Int) (R i:Int),n≤a.length→i=(n:Int)-1→q.length=a.length→Dig 65536 q→(∀t,t<n→q.getD t 0=0)→Rep 65536 R r→R<D→val 65536 q*D+R*65536^n+val 65536 (a.take n)=val 65536 a →
  ∃q2 r2,Ev (fun k=>tribunalref02_divD.l0 k a b q r i) (q2,r2)∧Rep 65536 (val 65536 a/D) q2∧Rep 65536 (val 65536 a%D) r2:=by
 have hDl:=hb.lt X0
 intro n
 induction n with
 | zero=>
  intro q r R i hn hi hq dq hz hr hR hv
  have hR0:=hr.nonneg X0
  obtain⟨q2,⟨K,hK⟩,h1,h2,h3⟩:=tribunalref02_trim_ev (B:=65536) (l:=q) Z0 dq
  have hv':val 65536 q*D+R=val 65536 a:=by rw[←hv];simp[val]
  have hdiv:val 65536 a/D=val 65536 q:=div_eq hD Z0 Z7
  have hmod:val 65536 a%D=R:=by
   have h4:=Int.mul_ediv_add_emod (val 65536 a) D
   rw[hdiv,Int.mul_comm]at h4
   omega
  refine⟨q2,r,⟨K+1,fun k hk=>?_⟩,⟨h1,h2,by rw[h3,hdiv]⟩,by rw[hmod];exact hr⟩
  obtain⟨k,rfl⟩:∃j,k=j+1:=⟨k-1,Z0⟩
  have hk':tribunalref02_trim.f k q=some q2:=hK k Z0
  show tribunalref02_divD.l0 (k+1) a b q r i=_
  rw[tribunalref02_divD.l0,if_neg Z0,hk',Option.bind_some]
 | succ n ih=>
  intro q r R i hn hi hq dq hz hr hR hv
  have hR0:=hr.nonneg X0
  have hi':i=(n:Int):=by omega
  subst hi'
  have ga:=getD_dig X0 da n
  have hrl:r.length≤b.length:=rep_len X0 hr Z0
  have dr:Dig 65536 (a.getD n 0::r):=Dig.cons.2 ⟨ga,hr.dig⟩
  obtain⟨t,⟨K1,e1⟩,h1,h2,h3⟩:=tribunalref02_trim_ev (B:=65536) (l:=a.getD n 0::r) V3 dr
  have ht:Rep 65536 (a.getD n 0+65536*R) t:=⟨h1,h2,by rw[h3];show a.getD n 0+65536*val 65536 r=_;rw[hr.val]⟩
  have htl:t.length≤b.length+1:=rep_len X0 ht (by rw[Int.pow_succ];omega)
  obtain⟨r',⟨K2,e2⟩,hr'⟩:=digit_ev ht hb hD Z0 Z0 Z0
  have g1:=Int.mul_ediv_add_emod (a.getD n 0+65536*R) D
  have g2:=Int.emod_nonneg (a.getD n 0+65536*R) (Int.ne_of_gt hD)
  have g3:=Int.emod_lt_of_pos (a.getD n 0+65536*R) hD
  have g4:0≤(a.getD n 0+65536*R)/D:=Int.ediv_nonneg Z0 Z0
  have g5:(a.getD n 0+65536*R)/D<65536:=Int.ediv_lt_of_lt_mul hD Z0
  generalize (a.getD n 0+65536*R)/D=g at *
  generalize hR':(a.getD n 0+65536*R)%D=R' at *
  clear hR'
  obtain⟨q2,r2,⟨K3,e3⟩,hq2⟩:=ih (q.set n g) r' R' ((n:Int)-1) Z0 rfl (by simp[hq]) (dq.set n ⟨g4,g5⟩) (fun t ht=>by rw[getD_set_ne _ _ _ _ Z0];exact hz t Z0) hr' g3 (by
   rw[←hv,val_set_getD _ _ _ _ Z0,hz n Z0,val_take_getD,Int.sub_zero,Int.pow_succ,Int.add_mul]
   generalize (65536:Int)^n=W
   have x1:g*W*D=D*g*W:=by rw[Int.mul_comm (g*W),←Int.mul_assoc]
   have x2:R*(W*65536)=65536*R*W:=by rw[Int.mul_comm W,←Int.mul_assoc,Int.mul_comm R]
   have x3:(D*g+R')*W=(a.getD n 0+65536*R)*W:=by rw[g1]
   rw[Int.add_mul,Int.add_mul]at x3
   rw[x1,x2]
   omega)
  refine⟨q2,r2,⟨K1+K2+K3+1,fun k hk=>?_⟩,hq2⟩
  obtain⟨k,rfl⟩:∃j,k=j+1:=⟨k-1,Z0⟩
  have f1:tribunalref02_trim.f k ([a.getD n 0]++r)=some t:=e1 k Z0
  have f2:tribunalref02_digit.f k t b=_:=e2 k Z0
  have f3:=e3 k Z0
  show tribunalref02_divD.l0 (k+1) a b q r (n:Int)=_
  rw[tribunalref02_divD.l0,if_pos Z0,if_pos Z0,if_pos Z0,Option.bind_some,rd_getD,if_pos V3,f1,Option.bind_some,f2,Option.bind_some,if_pos Z0,Int.toNat_natCast,w64 _ Z0]
  exact f3
theorem divD_ev {A D:Int} {a b:List Int} (ha:Rep 65536 A a) (hb:Rep 65536 D b) (hD:0<D) (la:a.length≤8388608) (lb:b.length≤8388590) :
  ∃q r,Ev (fun k=>tribunalref02_divD.f k a b) (q,r)∧Rep 65536 (A/D) q∧Rep 65536 (A%D) r:=by
 have hz:∀t,(List.replicate a.length (0:Int)).getD t 0=0:=fun t=>by
  simp[List.getD_eq_getElem?_getD,List.getElem?_replicate];split<;>rfl
 obtain⟨q2,r2,⟨K,hK⟩,h1,h2⟩:=divD_l0 a hb hD la lb ha.dig a.length (List.replicate a.length 0) [] 0 ((a.length:Int)-1) (Nat.le_refl _) rfl Z1 (Dig.rep X0 _) (fun t _=>hz t) ⟨Dig.nil,trivial,rfl⟩ hD (by rw[val_replicate,List.take_length];simp)
 rw[ha.val]at h1 h2
 refine⟨q2,r2,⟨K,fun k hk=>?_⟩,h1,h2⟩
 show tribunalref02_divD.f k a b=_
 rw[tribunalref02_divD.f,if_pos Z0,Int.toNat_natCast,if_pos Z0,w64 _ Z0]
 exact hK k hk
def qn (n m:Int):Int:=if(decide (n<0) != decide (m<0))=true then -((n.natAbs:Int)/(m.natAbs:Int)) else(n.natAbs:Int)/(m.natAbs:Int)
def rn (n m:Int):Int:=if decide (n<0)=true then -((n.natAbs:Int)%(m.natAbs:Int)) else(n.natAbs:Int)%(m.natAbs:Int)
theorem cut_num {n m:Int} {s t:Bool} {a b:List Int} (ha:Num 18446744073709551616 n s a) (hb:Num 18446744073709551616 m t b) (hm:m≠0) (la:a.length≤8388600) (lb:b.length≤8388600) :
  ∃u q v r,Ev (fun k=>whole_number_cut.f k a s b t) (q,u,r,v)∧Num 18446744073709551616 (qn n m) u q∧Num 18446744073709551616 (rn n m) v r:=by
 obtain⟨q,r,⟨K,hK⟩,hq,hr⟩:=quo_ev ha.rep hb.rep Z0 la lb
 refine⟨_,q,_,r,⟨K,fun k hk=>?_⟩,Num.of_rep' X0 hq (s != t) (by rw[ha.sign,hb.sign];rfl),Num.of_rep' X0 hr s (by rw[ha.sign];rfl)⟩
 have e:whole_amount_quo.f k a b=_:=hK k hk
 show whole_number_cut.f k a s b t=_
 rw[whole_number_cut.f,e,Option.bind_some,signed_eq,Option.bind_some,signed_eq,Option.bind_some]
theorem rMake_rep {v:Int} {l:List Int} (h:Rep 65536 v l) (hl:l.length≤8388608) (b:Bool) {n:Int} (hn:n=if b then -v else v):∃u r,Ev (fun k=>tribunalref02_Make.f k b l) (u,r)∧Num 65536 n u r:=by
 obtain⟨r,hE,h1,h2,h3⟩:=Make_ev b l Z0 h.dig
 exact⟨_,r,hE,Num.of_rep' X0 ⟨h1,h2,h3.trans h.val⟩ b hn⟩
theorem div_small {A D:Int} {L:Nat} (hA:0≤A∧A<65536^L) (hD:0<D):A/D<65536^L∧A%D<65536^L:=by
 have h1:=Int.ediv_le_self D hA.1
 have h2:=Int.mul_ediv_add_emod A D
 have h3:0≤A/D:=Int.ediv_nonneg hA.1 (Int.le_of_lt hD)
 have h4:=Int.mul_nonneg (Int.le_of_lt hD) h3
 exact⟨Z0,Z0⟩
theorem Cut_num {n m:Int} {s t:Bool} {a b:List Int} (ha:Num 65536 n s a) (hb:Num 65536 m t b) (hm:m≠0) (la:a.length≤8388590) (lb:b.length≤8388590) :
  ∃u q v r,Ev (fun k=>tribunalref02_Cut.f k s a t b) (u,q,v,r)∧Num 65536 (qn n m) u q∧Num 65536 (rn n m) v r∧q.length≤a.length∧r.length≤a.length:=by
 obtain⟨q0,r0,⟨K1,h1⟩,hq,hr⟩:=divD_ev ha.rep hb.rep Z0 Z0 lb
 have hA0:=ha.rep.nonneg X0
 have hA1:=ha.rep.lt X0
 obtain⟨d1,d2⟩:=div_small (D:=(m.natAbs:Int)) ⟨hA0,hA1⟩ Z0
 have lq:=rep_len X0 hq d1
 have lr:=rep_len X0 hr d2
 obtain⟨u,q,⟨K2,h2⟩,N1⟩:=rMake_rep hq Z0 (s != t) (n:=qn n m) (by rw[ha.sign,hb.sign];rfl)
 obtain⟨v,r,⟨K3,h3⟩,N2⟩:=rMake_rep hr Z0 s (n:=rn n m) (by rw[ha.sign];rfl)
 have eq1:((qn n m).natAbs:Int)=(n.natAbs:Int)/(m.natAbs:Int):=by
  have:0≤(n.natAbs:Int)/(m.natAbs:Int):=Int.ediv_nonneg Z0 Z0
  unfold qn;split<;>omega
 have er1:((rn n m).natAbs:Int)=(n.natAbs:Int)%(m.natAbs:Int):=by
  have:0≤(n.natAbs:Int)%(m.natAbs:Int):=Int.emod_nonneg _ Z0
  unfold rn;split<;>omega
 refine⟨u,q,v,r,⟨K1+K2+K3,fun k hk=>?_⟩,N1,N2,rep_len X0 N1.rep (by rw[eq1];exact d1),rep_len X0 N2.rep (by rw[er1];exact d2)⟩
 have e1:tribunalref02_divD.f k a b=_:=h1 k Z0
 have e2:tribunalref02_Make.f k (s != t) q0=_:=h2 k Z0
 have e3:tribunalref02_Make.f k s r0=_:=h3 k Z0
 show tribunalref02_Cut.f k s a t b=_
 rw[tribunalref02_Cut.f,e1,Option.bind_some,e2,Option.bind_some,e3,Option.bind_some]
theorem long_eq (l:List Int) (s:Bool):whole_number_long.f l s=some (decide ((l.length:Int)>4096)):=rfl
theorem null_eq (l:List Int):whole_amount_null.f l=some (decide (l=[])):=by
 rw[whole_amount_null.f]
 congr 1
 cases l<;>simp<;>omega
theorem num_nil {B n:Int} (hB:0<B) {s:Bool} {a:List Int} (h:Num B n s a):a=[]↔n=0:=by
 rw[h.rep.nil_iff hB];omega
theorem one_num:whole_one.f=some ([1],false)∧Num 18446744073709551616 1 false [1]:=
 ⟨rfl,⟨⟨by rw[Dig.cons];exact⟨X0,Dig.nil⟩,by simp[Top],F6⟩,rfl⟩⟩
theorem qn_abs (n m:Int):((qn n m).natAbs:Int)=(n.natAbs:Int)/(m.natAbs:Int):=by
 have:0≤(n.natAbs:Int)/(m.natAbs:Int):=Int.ediv_nonneg Z0 Z0
 unfold qn;split<;>omega
theorem rn_abs (n:Int) {m:Int} (hm:m≠0):((rn n m).natAbs:Int)=(n.natAbs:Int)%(m.natAbs:Int):=by
 have:0≤(n.natAbs:Int)%(m.natAbs:Int):=Int.emod_nonneg _ Z0
 unfold rn;split<;>omega
theorem qn_le (n m:Int):((qn n m).natAbs:Int)≤n.natAbs:=by
 rw[qn_abs];exact Int.ediv_le_self _ Z0
theorem rn_lt (n:Int) {m:Int} (hm:m≠0):((rn n m).natAbs:Int)<m.natAbs:=by
 rw[rn_abs n hm];exact Int.emod_lt_of_pos _ Z0
theorem rn_le (n:Int) {m:Int} (hm:m≠0):((rn n m).natAbs:Int)≤n.natAbs:=by
 rw[rn_abs n hm]
 have h1:=Int.mul_ediv_add_emod (n.natAbs:Int) (m.natAbs:Int)
 have h2:0≤(n.natAbs:Int)/(m.natAbs:Int):=Int.ediv_nonneg Z0 Z0
 have h3:=Int.mul_nonneg (show(0:Int)≤(m.natAbs:Int) by omega) h2
 omega
theorem len_small {B n k:Int} (hB:0<B) {s t:Bool} {a q:List Int} (ha:Num B n s a) (hq:Num B k t q) (h:(k.natAbs:Int)≤n.natAbs):q.length≤a.length:=
 rep_len hB hq.rep (Int.lt_of_le_of_lt h (ha.rep.lt hB))
def eq' (n m:Int):Int:=if rn n m<0 then(if m<0 then qn n m+1 else qn n m-1) else qn n m
def er' (n m:Int):Int:=if rn n m<0 then rn n m+(m.natAbs:Int) else rn n m
theorem whole_euclid {n m:Int} {s t:Bool} {a b:List Int} (ha:Num 18446744073709551616 n s a) (hb:Num 18446744073709551616 m t b) (hm:m≠0) (la:a.length≤1048576) (lb:b.length≤1048576) (x:Bool) (l:List Int) (y:Bool) (p:List Int) (h1:Ev (fun k=>whole_of.f k x l) (a,s)) (h2:Ev (fun k=>whole_of.f k y p) (b,t))
  (z:Bool×List Int×Bool×List Int×Int) (hz:∀u q v r,Num 18446744073709551616 (eq' n m) u q→Num 18446744073709551616 (er' n m) v r→Ev (fun k=>whole_pair.f k q u r v) z):Ev (fun k=>whole_DivMod.f k x l y p) z:=by
 obtain⟨K1,e1⟩:=h1
 obtain⟨K2,e2⟩:=h2
 obtain⟨u,q,v,r,⟨K3,e3⟩,N3,N4⟩:=cut_num ha hb hm Z0 Z0
 have hne:¬decide (b=[])=true:=by simpa using fun h=>hm ((num_nil X0 hb).1 h)
 have lq:=len_small X0 ha N3 (qn_le n m)
 have lr:=len_small X0 ha N4 (rn_le n hm)
 have sv:=N4.sign
 have st:=hb.sign
 by_cases hneg:rn n m<0
 ·have hv:v=true:=by rw[sv];exact decide_eq_true hneg
  have Nb:=Num.of_rep' X0 hb.rep false (n:=(m.natAbs:Int)) (by rw[if_neg X0])
  obtain⟨v2,r2,⟨K4,e4⟩,N5⟩:=plus_num N4 Nb Z0 Z0
  obtain⟨o1,No⟩:=one_num
  by_cases hmn:m<0
  ·have ht:t=true:=by rw[st];exact decide_eq_true hmn
   obtain⟨u2,q2,⟨K5,e5⟩,N6⟩:=plus_num N3 No Z0 Z1
   obtain⟨K6,e6⟩:=hz u2 q2 v2 r2 (by unfold eq';rw[if_pos hneg,if_pos hmn];exact N6) (by unfold er';rw[if_pos hneg];exact N5)
   refine⟨K1+K2+K3+K4+K5+K6,fun k hk=>?_⟩
   have g1:whole_of.f k x l=_:=e1 k Z0
   have g2:whole_of.f k y p=_:=e2 k Z0
   have g3:whole_number_cut.f k a s b t=_:=e3 k Z0
   have g4:whole_number_plus.f k r v b (false&&decide (0<b.length))=_:=e4 k Z0
   have g5:whole_number_plus.f k q u [1] false=_:=e5 k Z0
   have g6:whole_pair.f k q2 u2 r2 v2=_:=e6 k Z0
   show whole_DivMod.f k x l y p=_
   rw[whole_DivMod.f,g2,Option.bind_some,null_eq,Option.bind_some,if_neg hne,g1,Option.bind_some,g3,Option.bind_some,if_pos hv,signed_eq,Option.bind_some,g4,Option.bind_some,if_pos ht,o1,Option.bind_some,g5,Option.bind_some,g6,Option.bind_some]
  have ht:¬t=true:=by rw[st];simpa using hmn
  obtain⟨u2,q2,⟨K5,e5⟩,N6⟩:=minus_num N3 No Z0 Z1
  obtain⟨K6,e6⟩:=hz u2 q2 v2 r2 (by unfold eq';rw[if_pos hneg,if_neg hmn];exact N6) (by unfold er';rw[if_pos hneg];exact N5)
  refine⟨K1+K2+K3+K4+K5+K6,fun k hk=>?_⟩
  have g1:whole_of.f k x l=_:=e1 k Z0
  have g2:whole_of.f k y p=_:=e2 k Z0
  have g3:whole_number_cut.f k a s b t=_:=e3 k Z0
  have g4:whole_number_plus.f k r v b (false&&decide (0<b.length))=_:=e4 k Z0
  have g5:whole_number_minus.f k q u [1] false=_:=e5 k Z0
  have g6:whole_pair.f k q2 u2 r2 v2=_:=e6 k Z0
  show whole_DivMod.f k x l y p=_
  rw[whole_DivMod.f,g2,Option.bind_some,null_eq,Option.bind_some,if_neg hne,g1,Option.bind_some,g3,Option.bind_some,if_pos hv,signed_eq,Option.bind_some,g4,Option.bind_some,if_neg ht,o1,Option.bind_some,g5,Option.bind_some,g6,Option.bind_some]
 have hv:¬v=true:=by rw[sv];simpa using hneg
 obtain⟨K6,e6⟩:=hz u q v r (by unfold eq';rw[if_neg hneg];exact N3) (by unfold er';rw[if_neg hneg];exact N4)
 refine⟨K1+K2+K3+K6,fun k hk=>?_⟩
 have g1:whole_of.f k x l=_:=e1 k Z0
 have g2:whole_of.f k y p=_:=e2 k Z0
 have g3:whole_number_cut.f k a s b t=_:=e3 k Z0
 have g6:whole_pair.f k q u r v=_:=e6 k Z0
 show whole_DivMod.f k x l y p=_
 rw[whole_DivMod.f,g2,Option.bind_some,null_eq,Option.bind_some,if_neg hne,g1,Option.bind_some,g3,Option.bind_some,if_neg hv,g6,Option.bind_some]
theorem Euclid_num {n m:Int} {s t:Bool} {a b:List Int} (ha:Num 65536 n s a) (hb:Num 65536 m t b) (hm:m≠0) (la:a.length≤4194304) (lb:b.length≤4194304) :
  ∃u q v r,Ev (fun k=>tribunalref02_Euclid.f k s a t b) (u,q,v,r)∧Num 65536 (eq' n m) u q∧Num 65536 (er' n m) v r∧q.length≤8388608∧r.length≤8388608:=by
 obtain⟨u,q,v,r,⟨K1,e1⟩,N1,N2,lq,lr⟩:=Cut_num ha hb hm Z0 Z0
 have sv:=N2.sign
 have st:=hb.sign
 by_cases hneg:rn n m<0
 ·have hv:v=true:=by rw[sv];exact decide_eq_true hneg
  obtain⟨w,d,⟨K2,e2⟩,No,lo⟩:=Small1_num (n:=1) Z0
  by_cases hmn:m<0
  ·have ht:t=true:=by rw[st];exact decide_eq_true hmn
   obtain⟨u2,q2,⟨K3,e3⟩,N3⟩:=rplus_num N1 No Z0 Z0
   obtain⟨w2,b2,⟨K4,e4⟩,N4⟩:=rminus_num hb Z0
   have lb2:=len_small X0 hb N4 Z0
   obtain⟨v2,r2,⟨K5,e5⟩,N5⟩:=rplus_num N2 N4 Z0 Z0
   have l3:=num_len X0 N1 No N3 Z0 (show q.length≤4194304 by omega) (show d.length≤4194304 by omega)
   have l5:=num_len X0 N2 N4 N5 Z0 (show r.length≤4194304 by omega) (show b2.length≤4194304 by omega)
   refine⟨u2,q2,v2,r2,⟨K1+K2+K3+K4+K5,fun k hk=>?_⟩,by unfold eq';rw[if_pos hneg,if_pos hmn];exact N3,by unfold er';rw[if_pos hneg,show(m.natAbs:Int) = -m from by omega];exact N5,Z0,Z0⟩
   have g1:tribunalref02_Cut.f k s a t b=_:=e1 k Z0
   have g2:tribunalref02_Small1.f k 1=_:=e2 k Z0
   have g3:tribunalref02_Plus.f k u q w d=_:=e3 k Z0
   have g4:tribunalref02_Minus.f k t b=_:=e4 k Z0
   have g5:tribunalref02_Plus.f k v r w2 b2=_:=e5 k Z0
   show tribunalref02_Euclid.f k s a t b=_
   rw[tribunalref02_Euclid.f,g1,Option.bind_some,if_pos hv,g2,Option.bind_some,if_pos ht,g3,Option.bind_some,g4,Option.bind_some,g5,Option.bind_some]
  have ht:¬t=true:=by rw[st];simpa using hmn
  obtain⟨w2,d2,⟨K4,e4⟩,N4⟩:=rminus_num No Z0
  have ld2:=len_small X0 No N4 Z0
  obtain⟨u2,q2,⟨K3,e3⟩,N3⟩:=rplus_num N1 N4 Z0 Z0
  obtain⟨v2,r2,⟨K5,e5⟩,N5⟩:=rplus_num N2 hb Z0 Z0
  have l3:=num_len X0 N1 N4 N3 Z0 (show q.length≤4194304 by omega) (show d2.length≤4194304 by omega)
  have l5:=num_len X0 N2 hb N5 Z0 (show r.length≤4194304 by omega) (show b.length≤4194304 by omega)
  refine⟨u2,q2,v2,r2,⟨K1+K2+K3+K4+K5,fun k hk=>?_⟩,by unfold eq';rw[if_pos hneg,if_neg hmn,Int.sub_eq_add_neg];exact N3,by unfold er';rw[if_pos hneg,show(m.natAbs:Int)=m from by omega];exact N5,Z0,Z0⟩
  have g1:tribunalref02_Cut.f k s a t b=_:=e1 k Z0
  have g2:tribunalref02_Small1.f k 1=_:=e2 k Z0
  have g4:tribunalref02_Minus.f k w d=_:=e4 k Z0
  have g3:tribunalref02_Plus.f k u q w2 d2=_:=e3 k Z0
  have g5:tribunalref02_Plus.f k v r t b=_:=e5 k Z0
  show tribunalref02_Euclid.f k s a t b=_
  rw[tribunalref02_Euclid.f,g1,Option.bind_some,if_pos hv,g2,Option.bind_some,if_neg ht,g4,Option.bind_some,g3,Option.bind_some,g5,Option.bind_some]
 have hv:¬v=true:=by rw[sv];simpa using hneg
 refine⟨u,q,v,r,⟨K1,fun k hk=>?_⟩,by unfold eq';rw[if_neg hneg];exact N1,by unfold er';rw[if_neg hneg];exact N2,Z0,Z0⟩
 have g1:tribunalref02_Cut.f k s a t b=_:=e1 k Z0
 show tribunalref02_Euclid.f k s a t b=_
 rw[tribunalref02_Euclid.f,g1,Option.bind_some,if_neg hv]
def AN (L:Nat) (n:Int) (s:Bool) (l:List Int):Prop:=∃a s1,Ev (fun k=>whole_of.f k s l) (a,s1)∧Num 18446744073709551616 n s1 a∧a.length≤L
theorem of_num' {n:Int} {s:Bool} {r:List Int} (h:Num 18446744073709551616 n s r) (hl:r.length≤1048576):Ev (fun k=>whole_of.f k s r) (r,s):=by
 obtain⟨q,hq,_,h1,h2,h3⟩:=of_ev s r hl h.rep.dig
 have e:q=r:=h.rep.uniq X0 ⟨h1,h2,h3.trans h.rep.val⟩ |>.symm
 subst e
 have e1:=h.sign
 have e2:=h.rep.pos_iff X0
 have es:(s&&decide (0<q.length))=s:=by
  cases s
  ·rfl
  have hn:n<0:=of_decide_eq_true e1.symm
  have:=e2.2 Z0
  simp[this]
 rw[es]at hq
 exact hq
theorem AN.of {L:Nat} {n:Int} {s:Bool} {r:List Int} (h:Num 18446744073709551616 n s r) (hl:r.length≤L) (hL:L≤1048576):AN L n s r:=⟨r,s,of_num' h Z0,h,hl⟩
theorem AN.up {L L':Nat} {n:Int} {s:Bool} {l:List Int} (h:AN L n s l) (hL:L≤L'):AN L' n s l:=by
 obtain⟨a,s1,h1,h2,h3⟩:=h
 exact⟨a,s1,h1,h2,Z0⟩
theorem told_ok (s:Bool) {l:List Int} (h:l.length≤4096):whole_number_told.f l s=some (s,l,0):=by
 simp only[whole_number_told.f,whole_number_long.f,Option.bind_some]
 rw[if_neg V3,whole_number_out.f,api_Nat_uint64.f,if_pos Z0,Option.bind_some,Option.bind_some]
theorem out_ok (s:Bool) {l:List Int} (h:l.length≤1048576):whole_number_out.f l s=some (s,l):=by
 rw[whole_number_out.f,api_Nat_uint64.f,if_pos Z0,Option.bind_some]
section
variable {L L':Nat} {n m:Int} {s t:Bool} {l p:List Int}
theorem AN.add (h:AN L n s l) (g:AN L' m t p) (hL:L≤4000) (hL':L'≤4000):∃u q,Ev (fun k=>whole_Add.f k s l t p) (u,q,0)∧Num 18446744073709551616 (n+m) u q∧q.length≤max L L'+1:=by
 obtain⟨a,s1,⟨K1,e1⟩,N1,l1⟩:=h
 obtain⟨b,s2,⟨K2,e2⟩,N2,l2⟩:=g
 obtain⟨u,r,⟨K3,e3⟩,N3⟩:=plus_num N1 N2 Z0 Z0
 have hr:=num_len X0 N1 N2 N3 Z0 (L:=max L L') Z0 Z0
 refine⟨u,r,⟨K1+K2+K3,fun k hk=>?_⟩,N3,hr⟩
 have g1:whole_of.f k s l=_:=e1 k Z0
 have g2:whole_of.f k t p=_:=e2 k Z0
 have g3:whole_number_plus.f k a s1 b s2=_:=e3 k Z0
 show whole_Add.f k s l t p=_
 rw[whole_Add.f,g1,Option.bind_some,g2,Option.bind_some,g3,Option.bind_some,told_ok u (show r.length≤4096 by omega),Option.bind_some]
theorem AN.sub (h:AN L n s l) (g:AN L' m t p) (hL:L≤4000) (hL':L'≤4000):∃u q,Ev (fun k=>whole_Sub.f k s l t p) (u,q,0)∧Num 18446744073709551616 (n-m) u q∧q.length≤max L L'+1:=by
 obtain⟨a,s1,⟨K1,e1⟩,N1,l1⟩:=h
 obtain⟨b,s2,⟨K2,e2⟩,N2,l2⟩:=g
 obtain⟨u,r,⟨K3,e3⟩,N3⟩:=minus_num N1 N2 Z0 Z0
 have hr:=num_len X0 N1 N2 N3 Z0 (L:=max L L') Z0 Z0
 refine⟨u,r,⟨K1+K2+K3,fun k hk=>?_⟩,N3,hr⟩
 have g1:whole_of.f k s l=_:=e1 k Z0
 have g2:whole_of.f k t p=_:=e2 k Z0
 have g3:whole_number_minus.f k a s1 b s2=_:=e3 k Z0
 show whole_Sub.f k s l t p=_
 rw[whole_Sub.f,g1,Option.bind_some,g2,Option.bind_some,g3,Option.bind_some,told_ok u (show r.length≤4096 by omega),Option.bind_some]
theorem AN.cmp (h:AN L n s l) (g:AN L' m t p) (hL:L≤1048576) (hL':L'≤1048576):Ev (fun k=>whole_Cmp.f k s l t p) (sg (n-m)):=by
 obtain⟨a,s1,⟨K1,e1⟩,N1,l1⟩:=h
 obtain⟨b,s2,⟨K2,e2⟩,N2,l2⟩:=g
 obtain⟨K3,e3⟩:=cmp_num N1 N2 Z0 Z0
 refine⟨K1+K2+K3,fun k hk=>?_⟩
 have g1:whole_of.f k s l=_:=e1 k Z0
 have g2:whole_of.f k t p=_:=e2 k Z0
 have g3:whole_number_cmp.f k a s1 b s2=_:=e3 k Z0
 show whole_Cmp.f k s l t p=_
 rw[whole_Cmp.f,g1,Option.bind_some,g2,Option.bind_some,g3,Option.bind_some]
theorem pair_ok (u v:Bool) {q r:List Int} (hq:q.length≤4096) (hr:r.length≤4096):Ev (fun k=>whole_pair.f k q u r v) (u,q,v,r,0):=by
 refine⟨1,fun k hk=>?_⟩
 obtain⟨k,rfl⟩:∃j,k=j+1:=⟨k-1,Z0⟩
 show whole_pair.f (k+1) q u r v=_
 rw[whole_pair.f,long_eq,Option.bind_some,if_neg V3,long_eq,Option.bind_some,whole_pair.j0,if_neg V3,out_ok _ (show q.length≤1048576 by omega),Option.bind_some,out_ok _ (show r.length≤1048576 by omega),Option.bind_some]
theorem er'_lt (n:Int) {m:Int} (hm:m≠0):0≤er' n m∧er' n m<m.natAbs:=by
 have h:=rn_lt n hm
 unfold er'
 split<;>omega
theorem eq'_le (n m:Int):((eq' n m).natAbs:Int)≤n.natAbs+1:=by
 have h:=qn_le n m
 unfold eq'
 split
 ·split<;>omega
 omega
theorem AN.divMod (h:AN L n s l) (g:AN L' m t p) (hm:m≠0) (hL:L≤4000) (hL':L'≤4000):∃u q v r,Ev (fun k=>whole_DivMod.f k s l t p) (u,q,v,r,0)∧Num 18446744073709551616 (eq' n m) u q∧Num 18446744073709551616 (er' n m) v r∧q.length≤L+1∧r.length≤L':=by
 obtain⟨a,s1,E1,N1,l1⟩:=h
 obtain⟨b,s2,E2,N2,l2⟩:=g
 obtain⟨o1,No⟩:=one_num
 have key:∀u q v r,Num 18446744073709551616 (eq' n m) u q→Num 18446744073709551616 (er' n m) v r→(q.length≤max a.length 1+1∧r.length≤b.length):=by
  intro u q v r h1 h2
  have i1:=eq'_le n m
  have i2:=er'_lt n hm
  refine⟨?_,len_small X0 N2 h2 Z0⟩
  exact num_len X0 N1 No h1 Z0 (L:=max a.length 1) Z0 V3
 have ex:∃u q v r,Num 18446744073709551616 (eq' n m) u q∧Num 18446744073709551616 (er' n m) v r:=by
  refine Classical.byContradiction fun hno=>?_
  have w:=fun z=>whole_euclid N1 N2 hm Z0 Z0 s l t p E1 E2 z (fun u q v r h1 h2=>(hno ⟨u,q,v,r,h1,h2⟩).elim)
  obtain⟨K,hK⟩:=w (false,[],false,[],0)
  obtain⟨K',hK'⟩:=w (true,[],false,[],0)
  have e1:=hK (K+K') Z0
  have e2:=hK' (K+K') Z0
  rw[e1]at e2
  simp at e2
 obtain⟨u,q,v,r,h1,h2⟩:=ex
 have hk:=key u q v r h1 h2
 have hq:q.length≤L+1:=by
  by_cases h0:a.length=0
  ·have hn:n=0:=(num_nil X0 N1).1 (List.length_eq_zero_iff.1 h0)
   have i1:=eq'_le n m
   have:=len_small X0 No h1 Z0
   simp at this
   omega
  omega
 refine⟨u,q,v,r,whole_euclid N1 N2 hm Z0 Z0 s l t p E1 E2 _ (fun u2 q2 v2 r2 g1 g2=>?_),h1,h2,hq,Z0⟩
 obtain⟨e1,e2⟩:=h1.uniq X0 g1
 obtain⟨e3,e4⟩:=h2.uniq X0 g2
 subst e1;subst e2;subst e3;subst e4
 exact pair_ok u2 v2 Z0 Z0
end
theorem ediv_two (x:Int) {P Q:Int} (hP:0≤P):x/P/Q=x/(P*Q):=by
 rw[Int.ediv_ediv,if_neg Z0,Int.sub_zero]
theorem two_pow64 (j r:Nat):(2:Int)^(64*j+r)=18446744073709551616^j*2^r:=by
 rw[Int.pow_add,Int.pow_mul];rfl
theorem two_pos (n:Nat):(0:Int)<2^n:=Int.pow_pos X0
theorem two_le {m n:Nat} (h:m≤n):(2:Int)^m≤2^n:=pow_le_pow X0 h
theorem two_lt {m n:Nat} (h:m<n):(2:Int)^m<2^n:=by
 have h1:=two_le (show m+1≤n from h)
 rw[Int.pow_succ]at h1
 have:=two_pos m
 omega
theorem bit_limb {l:List Int} (hd:Dig 18446744073709551616 l) (i:Nat) (hi:i/64<l.length):val 18446744073709551616 l/2^i%2=l[i/64]/2^(i%64)%2:=by
 have e:(2:Int)^i=18446744073709551616^(i/64)*2^(i%64):=by
  rw[←two_pow64,show 64*(i/64)+i%64=i from by omega]
 have hP:(0:Int)<18446744073709551616^(i/64):=Int.pow_pos X0
 have hr:=two_pos (i%64)
 rw[e,←ediv_two _ (Int.le_of_lt hP)]
 have hs:=val_split 18446744073709551616 l (i/64) Z0
 have h1:=val_nonneg (B:=18446744073709551616) X0 (hd.take (i/64))
 have h2:=val_lt (B:=18446744073709551616) X0 (hd.take (i/64))
 rw[List.length_take,Nat.min_eq_left Z0]at h2
 rw[hs,Int.add_mul_ediv_left _ _ Z0,Int.ediv_eq_zero_of_lt h1 h2,Int.zero_add,List.drop_eq_getElem_cons hi]
 show(l[i/64]+18446744073709551616*val 18446744073709551616 (l.drop (i/64+1)))/2^(i%64)%2=_
 have e2:(18446744073709551616:Int)=2^(i%64)*(2*2^(63-i%64)):=by
  have h:=Int.pow_add 2 (i%64+1) (63-i%64)
  rw[show i%64+1+(63-i%64)=64 from by omega,Int.pow_succ 2 (i%64)]at h
  rw[←Int.mul_assoc,←h];rfl
 generalize hv:val 18446744073709551616 (l.drop (i/64+1))=v
 have e3:(18446744073709551616:Int)*v=2^(i%64)*(2*(2^(63-i%64)*v)):=by
  rw[e2];simp only[Int.mul_assoc]
 rw[e3,Int.add_mul_ediv_left _ _ Z0,Int.add_mul_emod_self_left]
theorem bits_zero {V:Int} (h0:0≤V) (w:Nat):∀n,w≤n→V<2^n→(∀j,w≤j→j<n→V/2^j%2=0)→V<2^w:=by
 intro n
 induction n with
 | zero=>intro hw hv _;rw[show w=0 from by omega];exact hv
 | succ n ih=>
  intro hw hv hb
  by_cases e:w=n+1
  ·rw[e];exact hv
  refine ih Z0 ?_ fun j h1 h2=>hb j h1 Z0
  have h:=hb n Z0 Z0
  have hp:=two_pos n
  rw[Int.pow_succ]at hv
  have h1:V/2^n<2:=Int.ediv_lt_of_lt_mul hp (by rw[Int.mul_comm];exact hv)
  have h2:0≤V/2^n:=Int.ediv_nonneg h0 (Int.le_of_lt hp)
  have h3:V/2^n=0:=by omega
  have h4:=Int.lt_ediv_add_one_mul_self V hp
  rw[h3]at h4
  omega
theorem bit_high {V:Int} (h0:0≤V) {w j:Nat} (hv:V<2^w) (hj:w≤j):V/2^j%2=0:=by
 have:=two_le hj
 rw[Int.ediv_eq_zero_of_lt h0 Z0];rfl
theorem bitLen_le_iff {x:Nat} (h0:x≠0) (hx:x<18446744073709551616):1≤Lib.bitLen x∧2^(Lib.bitLen x-1)≤x∧x<2^Lib.bitLen x:=Lib.bitLenAux_bounds 64 x hx h0
theorem natTrim_eq:∀(k:Nat) (x:List Int) (n:Int),nat_trim.l0 k x n=whole_trimmed.l0 k x n
 | 0,_,_=>rfl
 | k+1,x,n=>by rw[nat_trim.l0,whole_trimmed.l0,natTrim_eq k]
theorem natTrim_f (k:Nat) (l:List Int):nat_trim.f k l=whole_trimmed.f k l:=natTrim_eq k l _
theorem trim_ev (l:List Int) (hl:l.length≤1048576) (hd:Dig 18446744073709551616 l):∃a,Ev (fun k=>whole_trimmed.f k l) a∧Rep 18446744073709551616 (val 18446744073709551616 l) a∧a.length≤l.length:=by
 obtain⟨m,hm,he,ht,hv⟩:=whole_trimmed_l0 l Z0 l.length (l.length+1) (Nat.le_refl _) Z0
 exact⟨l.take m,Ev.of (fun k=>whole_trimmed.mono l k) he,⟨hd.take m,ht,by rw[hv,List.take_length]⟩,by rw[List.length_take];omega⟩
theorem ntrim_ev (l:List Int) (hl:l.length≤1048576) (hd:Dig 18446744073709551616 l):∃a,Ev (fun k=>nat_trim.f k l) a∧Rep 18446744073709551616 (val 18446744073709551616 l) a∧a.length≤l.length:=by
 obtain⟨a,⟨K,h⟩,R,hl⟩:=trim_ev l hl hd
 exact⟨a,⟨K,fun k hk=>(natTrim_f k l).trans (h k hk)⟩,R,hl⟩
theorem cast_pow (n:Nat):(((2:Nat)^n:Nat):Int)=2^n:=by rw[Int.natCast_pow];rfl
theorem nlen_ev (l:List Int) (hl:l.length≤1048576) (hd:Dig 18446744073709551616 l):∃N:Int,Ev (fun k=>nat_Len.f k l) N∧∀w:Nat,N≤(w:Int)↔val 18446744073709551616 l<2^w:=by
 obtain⟨a,⟨K,hr⟩,R,hlen⟩:=ntrim_ev l hl hd
 by_cases h0:a=[]
 ·subst h0
  have hv:=(R.nil_iff X0).1 rfl
  refine⟨0,⟨K,fun k hk=>?_⟩,fun w=>?_⟩
  ·have e:nat_trim.f k l=some []:=hr k hk
   show nat_Len.f k l=_
   rw[nat_Len.f,e,Option.bind_some];rfl
  rw[hv]
  have:=two_pos w
  omega
 have hp:=List.length_pos_iff.2 h0
 have hg:=R.dig.get (a.length-1) Z0
 have ht:a[a.length-1]≠0:=by
  have h:=(Top_iff a).1 R.top h0
  rwa [List.getLast_eq_getElem]at h
 obtain⟨b1,b2,b3⟩:=bitLen_le_iff (x:=a[a.length-1].toNat) Z0 Z0
 generalize hb:Lib.bitLen a[a.length-1].toNat=b at b1 b2 b3
 have aa:b≤64:=by rw[←hb];exact Lib.bitLen_le _ 64 (Nat.le_refl _) Z0
 have hw:wrap64 ((a.length:Int)-1)=((a.length-1:Nat):Int):=by rw[w64 _ Z0];omega
 have e:rd a ((a.length-1:Nat):Int)=a[a.length-1]:=by
  unfold rd
  rw[Int.toNat_natCast,List.getD_eq_getElem?_getD,List.getElem?_eq_getElem Z0];rfl
 refine⟨((64*(a.length-1)+b:Nat):Int),⟨K,fun k hk=>?_⟩,fun w=>?_⟩
 ·have hr':nat_trim.f k l=_:=hr k hk
  show nat_Len.f k l=_
  rw[nat_Len.f,hr',Option.bind_some,if_neg Z0,hw,if_pos Z0,if_pos Z0,e,bits_Len64.f,if_pos ⟨hg.1,Z0⟩,Option.bind_some,hb,w64 (64*((a.length-1:Nat):Int)) Z0,w64 _ Z0]
  congr 1
 have hs:val 18446744073709551616 l=val 18446744073709551616 (a.take (a.length-1))+a[a.length-1]*18446744073709551616^(a.length-1):=by
  have h:=val_take_succ 18446744073709551616 a (a.length-1) Z0
  rw[show a.length-1+1=a.length from by omega,List.take_length,R.val]at h
  exact h
 have h1:=val_nonneg (B:=18446744073709551616) X0 (R.dig.take (a.length-1))
 have h2:=val_lt (B:=18446744073709551616) X0 (R.dig.take (a.length-1))
 rw[List.length_take,Nat.min_eq_left Z0]at h2
 have i2:(2:Int)^(b-1)≤a[a.length-1]:=by rw[←cast_pow];omega
 have i3:a[a.length-1]+1≤(2:Int)^b:=by rw[←cast_pow];omega
 have hP:(0:Int)<18446744073709551616^(a.length-1):=Int.pow_pos X0
 have j2:=Int.mul_le_mul_of_nonneg_right i2 (Int.le_of_lt hP)
 have j3:=Int.mul_le_mul_of_nonneg_right i3 (Int.le_of_lt hP)
 rw[Int.mul_comm,←two_pow64]at j2
 rw[Int.mul_comm _ (18446744073709551616^_),Int.mul_comm (2^b),←two_pow64,Int.mul_add,Int.mul_one,Int.mul_comm]at j3
 constructor
 ·intro h
  have:=two_le (show 64*(a.length-1)+b≤w by omega)
  omega
 intro h
 rcases Nat.lt_or_ge w (64*(a.length-1)+b) with g|g
 ·have:=two_le (show w≤64*(a.length-1)+(b-1) by omega)
  omega
 omega
def rightB (w V:Int):Bool:=decide (1≤w)&&decide (w≤4096)&&decide (V<2^w.toNat)
theorem Right_ev (w:Int) (l:List Int) (hl:l.length≤1048576) (hd:Dig 18446744073709551616 l):Ev (fun k=>bits_Right.f k w l) (rightB w (val 18446744073709551616 l)):=by
 obtain⟨N,⟨K,h⟩,hN⟩:=nlen_ev l hl hd
 refine⟨K,fun k hk=>?_⟩
 show bits_Right.f k w l=_
 unfold bits_Right.f rightB
 by_cases h1:w≥1
 ·rw[if_pos h1]
  by_cases h2:w≤4096
  ·have e:nat_Len.f k l=some N:=h k hk
   rw[if_pos h2,e,Option.bind_some,decide_eq_true (show 1≤w from h1),decide_eq_true h2,Bool.true_and,Bool.true_and]
   have:=hN w.toNat
   exact congrArg some (decide_eq_decide.2 (by rw[←this];omega))
  rw[if_neg h2,decide_eq_false h2,Bool.and_false,Bool.false_and]
 rw[if_neg h1,decide_eq_false (show ¬1≤w from h1),Bool.false_and,Bool.false_and]
theorem and_one {x:Int} (h0:0≤x) (h:x<18446744073709551616):Go.bits .and .u64 x 1=x%2:=by
 obtain⟨n,rfl⟩:∃n:Nat,x=n:=⟨x.toNat,Z0⟩
 have:=bits_and_u64_nat n 1 Z0 X0
 rw[Nat.and_one_is_mod]at this
 exact this.trans Z0
theorem bit_expr {l:List Int} (hd:Dig 18446744073709551616 l) (i:Nat) (hi:i/64<l.length) (hl:l.length≤1048576) :
  wrap64 (Int.tdiv (i:Int) 64)=((i/64:Nat):Int)∧IntKind.u64.wrap (Int.tmod (i:Int) 64)=((i%64:Nat):Int)∧Go.bits .and .u64 (shr .u64 (rd l ((i/64:Nat):Int)) ((i%64:Nat):Int)) 1=val 18446744073709551616 l/2^i%2:=by
 have e1:Int.tdiv (i:Int) 64=((i/64:Nat):Int):=by rw[Int.tdiv_eq_ediv_of_nonneg Z0];omega
 have e2:Int.tmod (i:Int) 64=((i%64:Nat):Int):=by rw[Int.tmod_eq_emod_of_nonneg Z0];omega
 have e3:rd l ((i/64:Nat):Int)=l[i/64]:=by
  unfold rd
  rw[Int.toNat_natCast,List.getD_eq_getElem?_getD,List.getElem?_eq_getElem hi];rfl
 have hg:=hd.get (i/64) hi
 have hp:=two_pos (i%64)
 refine⟨by rw[e1,w64 _ Z0],by rw[e2,IntKind.wrap_u64];omega,?_⟩
 rw[bit_limb hd i hi,e3]
 unfold shr
 rw[Int.toNat_natCast,show min (i%64) IntKind.u64.bits=i%64 from Nat.min_eq_left (by show i%64≤64;omega)]
 refine and_one (Int.ediv_nonneg hg.1 (Int.le_of_lt hp)) ?_
 exact Int.lt_of_le_of_lt (Int.ediv_le_self _ hg.1) hg.2
theorem rRight_l0 (w:Int) (l:List Int) (hl:l.length≤1048576) (hd:Dig 18446744073709551616 l):∀(n i:Nat),i+n=64*l.length→∀k,n<k→∃b,tribunalref09_Right.l0 k (i:Int) w l=some b∧(b=true↔∀j,i≤j→j<64*l.length→val 18446744073709551616 l/2^j%2=0):=by
 intro n
 induction n with
 | zero=>
  intro i hi k hk
  obtain⟨k,rfl⟩:∃j,k=j+1:=⟨k-1,Z0⟩
  refine⟨true,?_,⟨fun _ j h1 h2=>by omega,fun _=>rfl⟩⟩
  rw[tribunalref09_Right.l0,w64 (64*(l.length:Int)) Z0,if_neg Z0]
 | succ n ih=>
  intro i hi k hk
  obtain⟨k,rfl⟩:∃j,k=j+1:=⟨k-1,Z0⟩
  have hi':i/64<l.length:=by omega
  obtain⟨e1,e2,e3⟩:=bit_expr hd i hi' hl
  rw[tribunalref09_Right.l0,w64 (64*(l.length:Int)) Z0,if_pos Z0,e1,if_pos Z0,if_pos Z0,e2,if_pos Z0,e3]
  by_cases hb:val 18446744073709551616 l/2^i%2=1
  ·rw[if_pos hb]
   exact⟨false,rfl,⟨fun h=>(by cases h),fun h=>by have:=h i (Nat.le_refl _) Z0;omega⟩⟩
  rw[if_neg hb,w64 ((i:Int)+1) Z0]
  obtain⟨b,h1,h2⟩:=ih (i+1) Z0 k Z0
  refine⟨b,h1,h2.trans ⟨fun h j j1 j2=>?_,fun h j j1 j2=>h j Z0 j2⟩⟩
  rcases Nat.eq_or_lt_of_le j1 with rfl|g
  ·omega
  exact h j g j2
theorem rRight_ev (w:Int) (l:List Int) (hl:l.length≤1048576) (hd:Dig 18446744073709551616 l):Ev (fun k=>tribunalref09_Right.f k w l) (rightB w (val 18446744073709551616 l)):=by
 refine⟨64*l.length+3,fun k hk=>?_⟩
 obtain⟨k,rfl⟩:∃j,k=j+1:=⟨k-1,Z0⟩
 show tribunalref09_Right.f (k+1) w l=_
 unfold rightB
 rw[tribunalref09_Right.f]
 by_cases h1:w<1
 ·rw[if_pos h1,tribunalref09_Right.j0,if_pos rfl,decide_eq_false (show ¬1≤w by omega),Bool.false_and,Bool.false_and]
 rw[if_neg h1,tribunalref09_Right.j0]
 by_cases h2:w>4096
 ·rw[if_pos (decide_eq_true h2),decide_eq_false (show ¬w≤4096 by omega),Bool.and_false,Bool.false_and]
 rw[if_neg (by simpa using h2),decide_eq_true (show 1≤w by omega),decide_eq_true (show w≤4096 by omega),Bool.true_and,Bool.true_and]
 obtain⟨n,rfl⟩:∃n:Nat,w=n:=⟨w.toNat,Z0⟩
 have h0:=val_nonneg (B:=18446744073709551616) X0 hd
 have hv:=val_lt (B:=18446744073709551616) X0 hd
 have hv':val 18446744073709551616 l<2^(64*l.length):=by
  have:=two_pow64 l.length 0
  rw[Nat.add_zero,Int.pow_zero,Int.mul_one]at this
  rw[this];exact hv
 rw[Int.toNat_natCast]
 by_cases h3:n≤64*l.length
 ·obtain⟨b,e,hb⟩:=rRight_l0 (n:Int) l hl hd (64*l.length-n) n Z0 k Z0
  rw[e]
  refine congrArg some (Bool.eq_iff_iff.2 (hb.trans ?_))
  rw[decide_eq_true_eq]
  exact⟨fun h=>bits_zero h0 n (64*l.length) h3 hv' h,fun h j j1 _=>bit_high h0 h j1⟩
 obtain⟨k,rfl⟩:∃j,k=j+1:=⟨k-1,Z0⟩
 have:=two_le (show 64*l.length≤n by omega)
 rw[tribunalref09_Right.l0,w64 (64*(l.length:Int)) Z0,if_neg Z0,decide_eq_true Z0]
theorem Bit_ev (w:Nat) (l:List Int) (hw:1≤w∧w≤4096) (hl:l.length≤1048576) (hd:Dig 18446744073709551616 l):nat_Bit.f l (wrap64 ((w:Int)-1))=some (val 18446744073709551616 l/2^(w-1)%2==1)∧tribunalref09_bit.f (w:Int) l (wrap64 ((w:Int)-1))=some (val 18446744073709551616 l/2^(w-1)%2==1):=by
 have e:wrap64 ((w:Int)-1)=((w-1:Nat):Int):=by rw[w64 _ Z0];omega
 rw[e]
 by_cases hi:(w-1)/64<l.length
 ·obtain⟨e1,e2,e3⟩:=bit_expr hd (w-1) hi hl
  constructor
  ·rw[nat_Bit.f,if_pos Z0,e1,if_pos Z0,if_pos Z0,e2,if_pos Z0,e3]
  rw[tribunalref09_bit.f,e1,if_pos Z0,if_pos Z0,e2,if_pos Z0,e3]
 have e1:wrap64 (Int.tdiv ((w-1:Nat):Int) 64)=(((w-1)/64:Nat):Int):=by
  rw[Int.tdiv_eq_ediv_of_nonneg Z0,w64 _ Z0];omega
 have h0:=val_nonneg (B:=18446744073709551616) X0 hd
 have hv:=val_lt (B:=18446744073709551616) X0 hd
 have hv':val 18446744073709551616 l<2^(64*l.length):=by
  have:=two_pow64 l.length 0
  rw[Nat.add_zero,Int.pow_zero,Int.mul_one]at this
  rw[this];exact hv
 have hz:=bit_high h0 hv' (show 64*l.length≤w-1 by omega)
 rw[hz]
 constructor
 ·rw[nat_Bit.f,if_pos Z0,e1,if_neg Z0];rfl
 rw[tribunalref09_bit.f,e1,if_neg Z0];rfl
theorem u_ev (w:Int) (l:List Int) (hl:l.length≤1048576) (hd:Dig 18446744073709551616 l):∃a,Ev (fun k=>bits_u.f k w l) (false,a)∧Num 18446744073709551616 (val 18446744073709551616 l) false a∧a.length≤l.length:=by
 obtain⟨a,⟨K,h⟩,R,la⟩:=trim_ev l hl hd
 have N:=Num.of_rep X0 R false
 rw[if_neg X0,Bool.false_and]at N
 refine⟨a,⟨K,fun k hk=>?_⟩,N,la⟩
 have e:whole_trimmed.f k l=some a:=h k hk
 show bits_u.f k w l=_
 rw[bits_u.f,whole_Norm.f,whole_of.f,e,Option.bind_some,if_neg X0,Option.bind_some,out_ok false (show a.length≤1048576 by omega),Option.bind_some,Option.bind_some]
theorem rU_ev (w:Int) (l:List Int) (hl:l.length≤1048576) (hd:Dig 18446744073709551616 l):∃a,Ev (fun k=>tribunalref09_U.f k w l) (false,a)∧Num 65536 (val 18446744073709551616 l) false a:=by
 obtain⟨r,⟨K,h⟩,h1,h2,h3⟩:=From_ev false l hl hd
 rw[Bool.false_and]at h
 have N:=Num.of_rep X0 (show Rep 65536 (val 18446744073709551616 l) r from⟨h1,h2,h3⟩) false
 rw[if_neg X0,Bool.false_and]at N
 refine⟨r,⟨K,fun k hk=>?_⟩,N⟩
 have e:tribunalref02_From.f k false l=_:=h k hk
 show tribunalref09_U.f k w l=_
 rw[tribunalref09_U.f,e,Option.bind_some]
theorem long_one (l:List Int) (hl:l.length≤4096) (hd:Dig 18446744073709551616 l):Ev (fun k=>nat_long.f k [l]) false:=by
 obtain⟨a,⟨K,h⟩,R,la⟩:=ntrim_ev l Z0 hd
 refine⟨K+2,fun k hk=>?_⟩
 obtain⟨k,rfl⟩:∃j,k=j+2:=⟨k-2,Z0⟩
 have e:nat_trim.f (k+1) l=some a:=h _ Z0
 show nat_long.l0 (k+2) [l] 1 0=_
 rw[nat_long.l0,if_pos X0,if_pos X0,if_pos Z1]
 show(nat_trim.f (k+1) l).bind _=_
 rw[e,Option.bind_some,if_neg Z0,show wrap64 ((0:Int)+1)=1 from(w64 _ Z0).trans rfl,nat_long.l0,if_neg X0]
theorem out_ev (l:List Int) (hl:l.length≤4096) (hd:Dig 18446744073709551616 l):∃a,Ev (fun k=>nat_out.f k l) (a,0)∧Rep 18446744073709551616 (val 18446744073709551616 l) a∧a.length≤l.length:=by
 obtain⟨K1,h1⟩:=long_one l hl hd
 obtain⟨a,⟨K2,h2⟩,R,la⟩:=ntrim_ev l Z0 hd
 refine⟨a,⟨K1+K2,fun k hk=>?_⟩,R,la⟩
 have e1:nat_long.f k [l]=some false:=h1 k Z0
 have e2:nat_trim.f k l=some a:=h2 k Z0
 show nat_out.f k l=_
 rw[nat_out.f,e1,Option.bind_some,if_neg X0,nat_own.f,e2,Option.bind_some]
 by_cases h0:a=[]
 ·subst h0;rfl
 have:=List.length_pos_iff.2 h0
 rw[if_neg Z0,api_Nat_uint64.f,if_pos Z0,Option.bind_some,Option.bind_some]
theorem shl_one (r:Nat) (hr:r<64):Ev (fun k=>nat_shl.f k [1] (r:Int)) [2^r,0]:=by
 refine⟨2,fun k hk=>?_⟩
 obtain⟨k,rfl⟩:∃j,k=j+2:=⟨k-2,Z0⟩
 have hp:=two_pos r
 have hlt:(2:Int)^r<18446744073709551616:=two_lt (n:=64) hr
 have h64:IntKind.u64.wrap (64-(r:Int))=((64-r:Nat):Int):=by rw[IntKind.wrap_u64];omega
 have e1:shl .u64 (rd [1] 0) (r:Int)=2^r:=by
  show IntKind.u64.wrap (1*2^min ((r:Int)).toNat 64)=_
  rw[Int.one_mul,Int.toNat_natCast,Nat.min_eq_left Z0,IntKind.wrap_u64,Int.emod_eq_of_lt Z0 hlt]
 have e2:Go.bits .or .u64 ((2:Int)^r) 0=2^r:=by
  have:=bits_or_u64_nat (2^r) 0 (Nat.pow_lt_pow_right X0 hr) X0
  rw[Nat.or_zero,cast_pow]at this
  exact this
 have e3:shr .u64 (rd [1] 0) ((64-r:Nat):Int)=0:=by
  show(1:Int)/2^min (((64-r:Nat):Int)).toNat 64=0
  rw[Int.toNat_natCast,Nat.min_eq_left Z0]
  have:=two_lt (show 0<64-r by omega)
  exact Int.ediv_eq_zero_of_lt X0 (by simpa using this)
 show nat_shl.f (k+2) [1] (r:Int)=_
 rw[nat_shl.f,show wrap64 ((([1]:List Int).length:Int)+1)=2 from(w64 _ X0).trans rfl,if_pos X0,if_pos X0,nat_shl.l0,if_pos X0,if_pos X0,if_pos X0,if_pos Z0,if_pos X0,h64,if_pos Z0,e1,e2,e3,show wrap64 ((0:Int)+1)=1 from(w64 _ Z0).trans rfl,nat_shl.l0,if_neg X0,if_pos Z1]
 rfl
theorem dig_one:Dig 18446744073709551616 [1]:=by rw[Dig.cons];exact⟨Z0,Dig.nil⟩
theorem power_ev (w:Nat) (hw:1≤w∧w≤4096):∃a,Ev (fun k=>bits_power.f k (w:Int)) (false,a)∧Num 18446744073709551616 (2^w) false a∧a.length≤66:=by
 have hr:w%64<64:=Nat.mod_lt _ X0
 obtain⟨K1,h1⟩:=long_one [1] X0 dig_one
 obtain⟨t,⟨K2,h2⟩,Rt,lt⟩:=ntrim_ev [1] X0 dig_one
 obtain rfl:t=[1]:=Rt.uniq X0 ⟨dig_one,(show(1:Int)≠0 by decide),rfl⟩
 obtain⟨K3,h3⟩:=shl_one (w%64) hr
 have hp:=two_pos (w%64)
 have hlt:(2:Int)^(w%64)<18446744073709551616:=two_lt (n:=64) hr
 have hd:Dig 18446744073709551616 (List.replicate (w/64) 0++[2^(w%64),0]):=by
  rw[Dig.append,Dig.cons,Dig.cons]
  exact⟨Dig.rep X0 _,⟨Z0,Z0⟩,Z0,Dig.nil⟩
 have hl:(List.replicate (w/64) (0:Int)++[2^(w%64),0]).length=w/64+2:=by simp
 obtain⟨a,⟨K4,h4⟩,R,la⟩:=out_ev _ (by rw[hl];omega) hd
 have hv:val 18446744073709551616 (List.replicate (w/64) (0:Int)++[2^(w%64),0])=2^w:=by
  rw[val_append,val_replicate,List.length_replicate,Int.zero_add]
  show 18446744073709551616^(w/64)*(2^(w%64)+18446744073709551616*(0+18446744073709551616*0))=_
  rw[Int.mul_zero,Int.add_zero,Int.mul_zero,Int.add_zero,←two_pow64,show 64*(w/64)+w%64=w from by omega]
 rw[hv]at R
 have N:=Num.of_rep X0 R false
 rw[if_neg X0,Bool.false_and]at N
 have e1:Int.tdiv (w:Int) 64=((w/64:Nat):Int):=by rw[Int.tdiv_eq_ediv_of_nonneg Z0];omega
 have e2:Int.tmod (w:Int) 64=((w%64:Nat):Int):=by rw[Int.tmod_eq_emod_of_nonneg Z0];omega
 refine⟨a,⟨K1+K2+K3+K4,fun k hk=>?_⟩,N,by rw[hl]at la;omega⟩
 have g1:nat_long.f k [[1]]=some false:=h1 k Z0
 have g2:nat_trim.f k [1]=some [1]:=h2 k Z0
 have g3:nat_shl.f k [1] ((w%64:Nat):Int)=_:=h3 k Z0
 have g4:nat_out.f k (List.replicate (w/64) 0++[2^(w%64),0])=_:=h4 k Z0
 have hu:IntKind.u64.wrap ((w%64:Nat):Int)=((w%64:Nat):Int):=by rw[IntKind.wrap_u64];omega
 show bits_power.f k (w:Int)=_
 rw[bits_power.f,nat_Shl.f,if_neg Z0,g1,Option.bind_some,if_neg X0,g2,Option.bind_some,if_neg X0,if_neg Z0,e1,w64 ((w/64:Nat):Int) Z0,if_pos Z0,Int.toNat_natCast,if_pos Z0,Option.bind_some,Option.bind_some,e2,hu,g3,Option.bind_some,if_pos V3,g4,Option.bind_some,Option.bind_some]
theorem rPower_ev (w:Nat) (hw:1≤w∧w≤4096):∃a,Ev (fun k=>tribunalref09_Power.f k (w:Int)) (false,a)∧Num 65536 (2^w) false a:=by
 have hr:w%64<64:=Nat.mod_lt _ X0
 have hp:=two_pos (w%64)
 have hlt:(2:Int)^(w%64)<18446744073709551616:=two_lt (n:=64) hr
 have hd:Dig 18446744073709551616 ((List.replicate (w/64+1) (0:Int)).set (w/64) (2^(w%64))):=(Dig.rep X0 _).set _ ⟨Z0,hlt⟩
 obtain⟨a,⟨K,h⟩,h1,h2,h3⟩:=From_ev false _ (show((List.replicate (w/64+1) (0:Int)).set (w/64) (2^(w%64))).length≤1048576 by rw[List.length_set,List.length_replicate];omega) hd
 rw[Bool.false_and]at h
 have hv:val 18446744073709551616 ((List.replicate (w/64+1) (0:Int)).set (w/64) (2^(w%64)))=2^w:=by
  rw[val_set _ _ _ _ (by rw[List.length_replicate];omega),val_replicate,List.getElem_replicate,Int.sub_zero,Int.zero_add,Int.mul_comm,←two_pow64,show 64*(w/64)+w%64=w from by omega]
 rw[hv]at h3
 have N:=Num.of_rep X0 (show Rep 65536 (2^w) a from⟨h1,h2,h3⟩) false
 rw[if_neg X0,Bool.false_and]at N
 have e1:wrap64 (Int.tdiv (w:Int) 64)=((w/64:Nat):Int):=by rw[Int.tdiv_eq_ediv_of_nonneg Z0,w64 _ Z0];omega
 have e2:IntKind.u64.wrap (Int.tmod (w:Int) 64)=((w%64:Nat):Int):=by rw[Int.tmod_eq_emod_of_nonneg Z0,IntKind.wrap_u64];omega
 have e3:wrap64 (((w/64:Nat):Int)+1)=((w/64+1:Nat):Int):=by rw[w64 _ Z0];omega
 have e4:shl .u64 1 ((w%64:Nat):Int)=2^(w%64):=by
  show IntKind.u64.wrap (1*2^min (((w%64:Nat):Int)).toNat 64)=_
  rw[Int.one_mul,Int.toNat_natCast,Nat.min_eq_left Z0,IntKind.wrap_u64,Int.emod_eq_of_lt Z0 hlt]
 refine⟨a,⟨K,fun k hk=>?_⟩,N⟩
 have g:tribunalref02_From.f k false ((List.replicate (w/64+1) (0:Int)).set (w/64) (2^(w%64)))=_:=h k hk
 show tribunalref09_Power.f k (w:Int)=_
 rw[tribunalref09_Power.f,e1,e3,if_pos Z0,Int.toNat_natCast,if_pos Z0,Option.bind_some,e2,if_pos Z0,if_pos Z0,if_pos (by rw[List.length_replicate];omega),Int.toNat_natCast,e4,g,Option.bind_some]
def sgn (w:Nat) (V:Int):Int:=if(V/2^(w-1)%2==1)=true then V-2^w else V
theorem s_ev (w:Nat) (l:List Int) (hw:1≤w∧w≤4096) (hl:l.length≤1048576) (hd:Dig 18446744073709551616 l) (hv:val 18446744073709551616 l<2^w):∃t a,Ev (fun k=>bits_s.f k (w:Int) l) (t,a)∧Num 18446744073709551616 (sgn w (val 18446744073709551616 l)) t a∧a.length≤100:=by
 obtain⟨a,⟨K1,h1⟩,N1,_⟩:=u_ev (w:Int) l hl hd
 have la:a.length≤64:=rep_len X0 N1.rep (by
  have h0:=val_nonneg (B:=18446744073709551616) X0 hd
  have:=two_le (show w≤64*64 by omega)
  have e:=two_pow64 64 0
  rw[Nat.add_zero,Int.pow_zero,Int.mul_one]at e
  omega)
 have hb:=(Bit_ev w l hw hl hd).1
 unfold sgn
 by_cases c:(val 18446744073709551616 l/2^(w-1)%2==1)=true
 ·rw[if_pos c]
  obtain⟨p,⟨K2,h2⟩,N2,lp⟩:=power_ev w hw
  obtain⟨t,q,⟨K3,h3⟩,N3,lq⟩:=(AN.of N1 la X0:AN 64 _ _ _).sub (AN.of N2 lp X0:AN 66 _ _ _) X0 X0
  refine⟨t,q,⟨K1+K2+K3,fun k hk=>?_⟩,N3,Z0⟩
  have g1:bits_u.f k (w:Int) l=_:=h1 k Z0
  have g2:bits_power.f k (w:Int)=_:=h2 k Z0
  have g3:whole_Sub.f k false a false p=_:=h3 k Z0
  show bits_s.f k (w:Int) l=_
  rw[bits_s.f,hb,Option.bind_some,if_pos c,g1,Option.bind_some,g2,Option.bind_some,g3,Option.bind_some]
 rw[if_neg c]
 refine⟨false,a,⟨K1,fun k hk=>?_⟩,N1,Z0⟩
 have g1:bits_u.f k (w:Int) l=_:=h1 k Z0
 show bits_s.f k (w:Int) l=_
 rw[bits_s.f,hb,Option.bind_some,if_neg c,g1,Option.bind_some]
theorem rS_ev (w:Nat) (l:List Int) (hw:1≤w∧w≤4096) (hl:l.length≤1048576) (hd:Dig 18446744073709551616 l) (hv:val 18446744073709551616 l<2^w):∃t a,Ev (fun k=>tribunalref09_S.f k (w:Int) l) (t,a)∧Num 65536 (sgn w (val 18446744073709551616 l)) t a∧a.length≤8388600:=by
 obtain⟨a,⟨K1,h1⟩,N1⟩:=rU_ev (w:Int) l hl hd
 have h0:=val_nonneg (B:=18446744073709551616) X0 hd
 have e65:(2:Int)^4096=65536^256:=by rw[show 4096=16*256 from rfl,Int.pow_mul];rfl
 have hw':=two_le hw.2
 have la:a.length≤256:=rep_len X0 N1.rep Z0
 have hb:=(Bit_ev w l hw hl hd).2
 unfold sgn
 by_cases c:(val 18446744073709551616 l/2^(w-1)%2==1)=true
 ·rw[if_pos c]
  obtain⟨p,⟨K2,h2⟩,N2⟩:=rPower_ev w hw
  have lp:p.length≤257:=rep_len X0 N2.rep (by
   have:=two_pos w
   have h5:(65536:Int)^256<65536^257:=by rw[Int.pow_succ 65536 256];have:=Int.pow_pos (n:=(65536:Int)) (m:=256) X0;omega
   omega)
  obtain⟨u,m,⟨K3,h3⟩,N3⟩:=rminus_num N2 Z0
  have lm:m.length≤257:=rep_len X0 N3.rep (by
   have:=two_pos w
   have h5:(65536:Int)^256<65536^257:=by rw[Int.pow_succ 65536 256];have:=Int.pow_pos (n:=(65536:Int)) (m:=256) X0;omega
   omega)
  obtain⟨t,q,⟨K4,h4⟩,N4⟩:=rplus_num N1 N3 Z0 Z0
  rw[←Int.sub_eq_add_neg]at N4
  have lq:q.length≤257:=rep_len X0 N4.rep (by
   have:=two_pos w
   have h5:(65536:Int)^256<65536^257:=by rw[Int.pow_succ 65536 256];have:=Int.pow_pos (n:=(65536:Int)) (m:=256) X0;omega
   omega)
  refine⟨t,q,⟨K1+K2+K3+K4,fun k hk=>?_⟩,N4,Z0⟩
  have g1:tribunalref09_U.f k (w:Int) l=_:=h1 k Z0
  have g2:tribunalref09_Power.f k (w:Int)=_:=h2 k Z0
  have g3:tribunalref02_Minus.f k false p=_:=h3 k Z0
  have g4:tribunalref02_Plus.f k false a u m=_:=h4 k Z0
  show tribunalref09_S.f k (w:Int) l=_
  rw[tribunalref09_S.f,hb,Option.bind_some,if_pos c,g1,Option.bind_some,g2,Option.bind_some,g3,Option.bind_some,g4,Option.bind_some]
 rw[if_neg c]
 refine⟨false,a,⟨K1,fun k hk=>?_⟩,N1,Z0⟩
 have g1:tribunalref09_U.f k (w:Int) l=_:=h1 k Z0
 show tribunalref09_S.f k (w:Int) l=_
 rw[tribunalref09_S.f,hb,Option.bind_some,if_neg c,g1,Option.bind_some]
theorem alive_ev:Ev (fun k=>tribunallaw09_alive.f k) true:=Ev.of (fun k=>tribunallaw09_alive.mono k) (k:=80) Y0
def sn (s:Bool) (v:Int):Int:=if s then -v else v
theorem arg_sn (s:Bool) (l:List Int) (hl:l.length≤1048576) (hd:Dig 18446744073709551616 l):∃(t:Bool) (r d:List Int),
  Ev (fun k=>whole_of.f k s l) (r,t)∧Ev (fun k=>tribunalref02_From.f k s l) (t,d)∧Num 18446744073709551616 (sn s (val 18446744073709551616 l)) t r∧Num 65536 (sn s (val 18446744073709551616 l)) t d∧r.length≤l.length∧d.length≤4*l.length:=by
 obtain⟨r,hr,hrl,hrd,hrt,hrv⟩:=of_ev s l hl hd
 obtain⟨d,hdE,hdd,hdt,hdv⟩:=From_ev s l hl hd
 have R1:Rep 18446744073709551616 (val 18446744073709551616 l) r:=⟨hrd,hrt,hrv⟩
 have R2:Rep 65536 (val 18446744073709551616 l) d:=⟨hdd,hdt,hdv⟩
 have N1:=Num.of_rep X0 R1 s
 have N2:=Num.of_rep X0 R2 s
 have e:(s&&decide (0<d.length))=(s&&decide (0<r.length)):=N2.sign.trans N1.sign.symm
 refine⟨_,r,d,hr,?_,N1,e ▸ N2,hrl,len4 hd rfl R2⟩
 rw[←e];exact hdE
theorem er'_emod (n:Int) {m:Int} (hm:0<m):er' n m=n%m:=by
 have hab:(m.natAbs:Int)=m:=by omega
 unfold er' rn
 rw[hab]
 by_cases c:n<0
 ·rw[decide_eq_true c,if_pos rfl]
  have ha:(n.natAbs:Int) = -n:=by omega
  rw[ha]
  have h1:=Int.mul_ediv_add_emod (-n) m
  have h2:=Int.emod_nonneg (-n) (show m≠0 by omega)
  have h3:=Int.emod_lt_of_pos (-n) hm
  by_cases z:(-n)%m=0
  ·rw[z,if_neg X0]
   exact((Int.ediv_emod_unique hm (q := -((-n)/m))).2 ⟨by rw[Int.mul_neg];omega,Z0,Z0⟩).2.symm
  rw[if_pos Z0]
  refine((Int.ediv_emod_unique hm (q := -((-n)/m)-1)).2 ⟨?_,Z0,Z0⟩).2.symm
  rw[Int.mul_sub,Int.mul_neg,Int.mul_one]
  omega
 rw[decide_eq_false c,if_neg (show ¬((false:Bool)=true) by decide),show(n.natAbs:Int)=n from by omega]
 have h2:=Int.emod_nonneg n (show m≠0 by omega)
 rw[if_neg Z0]
theorem low_mod (s:Bool) (l:List Int) (w k:Nat) (hk:w≤64*k) (hl:k≤l.length):sn s (val 18446744073709551616 (l.take k))%2^w=sn s (val 18446744073709551616 l)%2^w:=by
 have e:val 18446744073709551616 l=val 18446744073709551616 (l.take k)+18446744073709551616^k*val 18446744073709551616 (l.drop k):=by
  have:=val_append (B:=18446744073709551616) (l.take k) (l.drop k)
  rw[List.take_append_drop,List.length_take,Nat.min_eq_left hl]at this
  exact this
 have e2:(18446744073709551616:Int)^k=2^w*2^(64*k-w):=by
  rw[←Int.pow_add,show w+(64*k-w)=64*k from by omega,Int.pow_mul]
  rfl
 rw[e,e2]
 cases s
 ·show val _ _%_=(_+_)%_
  rw[Int.mul_assoc,Int.add_mul_emod_self_left]
 show(-val _ _)%_=(-(_+_))%_
 rw[Int.neg_add,Int.mul_assoc,←Int.mul_neg,Int.add_mul_emod_self_left]
theorem of_num {w:Nat} (hw:1≤w∧w≤4096) {L:Nat} {n:Int} {s:Bool} {l:List Int} (h:AN L n s l) (hL:L≤4000):∃v r,Ev (fun k=>bits_of.f k (w:Int) s l) ((w:Int),r)∧Num 18446744073709551616 (n%2^w) v r∧r.length≤66:=by
 obtain⟨p,⟨K1,h1⟩,N1,lp⟩:=power_ev w hw
 have hp:=two_pos w
 obtain⟨u,q,v,r,⟨K2,h2⟩,_,N2,_,lr⟩:=h.divMod (AN.of N1 lp X0:AN 66 _ _ _) Z0 hL X0
 rw[er'_emod _ hp]at N2
 refine⟨v,r,⟨K1+K2,fun k hk=>?_⟩,N2,lr⟩
 have g1:bits_power.f k (w:Int)=_:=h1 k Z0
 have g2:whole_DivMod.f k s l false p=_:=h2 k Z0
 show bits_of.f k (w:Int) s l=_
 rw[bits_of.f,g1,Option.bind_some,g2,Option.bind_some]
theorem two_rep_len {n:Int} {a:List Int} {w:Nat} (hw:w≤4096) (h:Rep 65536 n a) (hn:n≤2^w):a.length≤257:=by
 have e65:(2:Int)^4096=65536^256:=by rw[show 4096=16*256 from rfl,Int.pow_mul];rfl
 have hw':=two_le hw
 have h5:(65536:Int)^256<65536^257:=by rw[Int.pow_succ 65536 256];have:=Int.pow_pos (n:=(65536:Int)) (m:=256) X0;omega
 exact rep_len X0 h Z0
theorem To_num {n:Int} {s:Bool} {D:List Int} (h:Num 65536 n s D) (hD:D.length≤8388608):∃r,Ev (fun k=>tribunalref02_To.f k s D) (s,r)∧Num 18446744073709551616 n s r:=by
 obtain⟨r,E,hd,ht,hv,_,_⟩:=To_ev D s hD h.rep.dig h.rep.top
 exact⟨r,E,⟨⟨hd,ht,hv.trans h.rep.val⟩,h.sign⟩⟩
theorem rmod_num {w:Nat} (hw:1≤w∧w≤4096) {n:Int} {s:Bool} {d:List Int} (h:Num 65536 n s d) (hd:d.length≤4194304):∃v r,Ev (fun k=>tribunalref09_Mod.f k (w:Int) s d) ((w:Int),r)∧Num 18446744073709551616 (n%2^w) v r:=by
 obtain⟨p,⟨K1,h1⟩,N1⟩:=rPower_ev w hw
 have hp:=two_pos w
 have lp:p.length≤257:=two_rep_len hw.2 N1.rep Z0
 obtain⟨u,q,v,r,⟨K2,h2⟩,_,N2,_,lr⟩:=Euclid_num h N1 Z0 hd Z0
 rw[er'_emod _ hp]at N2
 obtain⟨t,⟨K3,h3⟩,N3⟩:=To_num N2 lr
 refine⟨v,t,⟨K1+K2+K3,fun k hk=>?_⟩,N3⟩
 have g1:tribunalref09_Power.f k (w:Int)=_:=h1 k Z0
 have g2:tribunalref02_Euclid.f k s d false p=_:=h2 k Z0
 have g3:tribunalref02_To.f k v r=_:=h3 k Z0
 show tribunalref09_Mod.f k (w:Int) s d=_
 rw[tribunalref09_Mod.f,g1,Option.bind_some,g2,Option.bind_some,g3,Option.bind_some]
theorem low_ev {w:Nat} (hw:1≤w∧w≤4096) (s:Bool) (l:List Int) (hl:l.length≤1048576) (hd:Dig 18446744073709551616 l):∃v r,Ev (fun k=>bits_low.f k (w:Int) s l) ((w:Int),r)∧Num 18446744073709551616 (sn s (val 18446744073709551616 l)%2^w) v r∧r.length≤66:=by
 have e1:wrap64 (Int.tdiv (wrap64 ((w:Int)+63)) 64)=(((w+63)/64:Nat):Int):=by
  rw[w64 ((w:Int)+63) Z0,Int.tdiv_eq_ediv_of_nonneg Z0,w64 _ Z0];omega
 have hc:api_Nat_uint64.f l=some l:=by rw[api_Nat_uint64.f,if_pos Z0]
 obtain⟨m,hm⟩:∃m,m=(w+63)/64:=⟨_,rfl⟩
 rw[←hm]at e1
 have hm2:m≤64:=by omega
 by_cases c:m<l.length
 ·have hdt:Dig 18446744073709551616 (l.take m):=fun z hz=>hd z (List.mem_of_mem_take hz)
  have ltl:(l.take m).length=m:=by rw[List.length_take];omega
  obtain⟨t,r,d,E1,_,N1,_,lr,_⟩:=arg_sn s (l.take m) Z0 hdt
  obtain⟨v,q,⟨K,h⟩,N,lq⟩:=of_num hw (⟨r,t,E1,N1,lr⟩:AN (l.take m).length _ s (l.take m)) Z0
  rw[low_mod s l w m Z0 Z0]at N
  refine⟨v,q,⟨K,fun k hk=>?_⟩,N,lq⟩
  have g:bits_of.f k (w:Int) s (l.take m)=_:=h k hk
  show bits_low.f k (w:Int) s l=_
  rw[bits_low.f,hc,Option.bind_some,e1,if_pos Z0,if_pos Z0,if_pos Z0,Int.toNat_natCast,g,Option.bind_some]
 obtain⟨t,r,d,E1,_,N1,_,lr,_⟩:=arg_sn s l hl hd
 obtain⟨v,q,⟨K,h⟩,N,lq⟩:=of_num hw (⟨r,t,E1,N1,lr⟩:AN l.length _ s l) Z0
 refine⟨v,q,⟨K,fun k hk=>?_⟩,N,lq⟩
 have g:bits_of.f k (w:Int) s l=_:=h k hk
 show bits_low.f k (w:Int) s l=_
 rw[bits_low.f,hc,Option.bind_some,e1,if_neg Z0,g,Option.bind_some]
theorem From_both (w:Int) (s:Bool) (l:List Int) (hl:l.length≤1048576) (hd:Dig 18446744073709551616 l):∃z:Int×List Int×Int,Ev (fun k=>bits_From.f k w s l) z∧Ev (fun k=>tribunalref09_From.f k w s l) z∧z.2.1.length≤8388608:=by
 by_cases c1:w<1
 ·refine⟨(0,[],55),⟨0,fun k _=>?_⟩,⟨1,fun k hk=>?_⟩,Z1⟩
  ·show bits_From.f k w s l=_
   rw[bits_From.f,if_pos c1]
  obtain⟨k,rfl⟩:∃j,k=j+1:=⟨k-1,Z0⟩
  show tribunalref09_From.f (k+1) w s l=_
  rw[tribunalref09_From.f,if_pos c1,tribunalref09_From.j0,if_pos rfl]
 by_cases c2:w>4096
 ·refine⟨(0,[],55),⟨0,fun k _=>?_⟩,⟨1,fun k hk=>?_⟩,Z1⟩
  ·show bits_From.f k w s l=_
   rw[bits_From.f,if_neg c1,if_pos c2]
  obtain⟨k,rfl⟩:∃j,k=j+1:=⟨k-1,Z0⟩
  show tribunalref09_From.f (k+1) w s l=_
  rw[tribunalref09_From.f,if_neg c1,decide_eq_true c2,tribunalref09_From.j0,if_pos rfl]
 obtain⟨n,rfl⟩:∃n:Nat,w=n:=⟨w.toNat,Z0⟩
 have hw:1≤n∧n≤4096:=by omega
 obtain⟨v,r,⟨K1,h1⟩,N1,lr⟩:=low_ev hw s l hl hd
 obtain⟨t,a,d,_,⟨K2,h2⟩,_,N2,_,ld⟩:=arg_sn s l hl hd
 obtain⟨v',r',⟨K3,h3⟩,N3⟩:=rmod_num hw N2 Z0
 obtain⟨_,rfl⟩:=N1.uniq X0 N3
 refine⟨((n:Int),r',0),⟨K1,fun k hk=>?_⟩,⟨K2+K3+1,fun k hk=>?_⟩,by show r'.length≤_;omega⟩
 ·have g1:bits_low.f k (n:Int) s l=_:=h1 k hk
  show bits_From.f k (n:Int) s l=_
  rw[bits_From.f,if_neg c1,if_neg c2,g1,Option.bind_some]
 obtain⟨k,rfl⟩:∃j,k=j+1:=⟨k-1,Z0⟩
 have g2:tribunalref02_From.f k s l=_:=h2 k Z0
 have g3:tribunalref09_Mod.f k (n:Int) t d=_:=h3 k Z0
 show tribunalref09_From.f (k+1) (n:Int) s l=_
 rw[tribunalref09_From.f,if_neg c1,decide_eq_false c2,tribunalref09_From.j0,if_neg X0,g2,Option.bind_some,g3,Option.bind_some]
theorem num_zero:Num 18446744073709551616 0 false []:=⟨⟨Dig.nil,trivial,rfl⟩,rfl⟩
theorem right_nat {w V:Int} (h:rightB w V=true):∃n:Nat,w=n∧1≤n∧n≤4096∧V<2^n:=by
 simp only[rightB,Bool.and_eq_true,decide_eq_true_eq]at h
 exact⟨w.toNat,Z0,Z0,Z0,h.2⟩
theorem Unsigned_both (w:Int) (l:List Int) (hl:l.length≤1048576) (hd:Dig 18446744073709551616 l):∃(n:Int) (s:Bool) (a:List Int) (e:Int),Ev (fun k=>bits_Unsigned.f k w l) (s,a,e)∧Ev (fun k=>tribunalref09_Unsigned.f k w l) (s,a,e)∧Num 18446744073709551616 n s a∧a.length≤1048576:=by
 obtain⟨K1,h1⟩:=Right_ev w l hl hd
 obtain⟨K2,h2⟩:=rRight_ev w l hl hd
 by_cases c:rightB w (val 18446744073709551616 l)=true
 ·obtain⟨n,rfl,hn1,hn2,hv⟩:=right_nat c
  rw[c]at h1 h2
  obtain⟨a,⟨K3,h3⟩,N3,la⟩:=u_ev (n:Int) l hl hd
  obtain⟨b,⟨K4,h4⟩,N4⟩:=rU_ev (n:Int) l hl hd
  obtain⟨r,⟨K5,h5⟩,N5⟩:=To_num N4 (by have:=two_rep_len hn2 N4.rep (by have:=val_nonneg (B:=18446744073709551616) X0 hd;omega);omega)
  obtain⟨_,rfl⟩:=N3.uniq X0 N5
  refine⟨_,false,r,0,⟨K1+K3,fun k hk=>?_⟩,⟨K2+K4+K5,fun k hk=>?_⟩,N3,Z0⟩
  ·have g1:bits_Right.f k (n:Int) l=_:=h1 k Z0
   have g3:bits_u.f k (n:Int) l=_:=h3 k Z0
   show bits_Unsigned.f k (n:Int) l=_
   rw[bits_Unsigned.f,g1,Option.bind_some,if_pos rfl,g3,Option.bind_some]
  have g2:tribunalref09_Right.f k (n:Int) l=_:=h2 k Z0
  have g4:tribunalref09_U.f k (n:Int) l=_:=h4 k Z0
  have g5:tribunalref02_To.f k false b=_:=h5 k Z0
  show tribunalref09_Unsigned.f k (n:Int) l=_
  rw[tribunalref09_Unsigned.f,g2,Option.bind_some,if_pos rfl,g4,Option.bind_some,g5,Option.bind_some]
 refine⟨0,false,[],90,⟨K1,fun k hk=>?_⟩,⟨K2,fun k hk=>?_⟩,num_zero,Z1⟩
 ·have g1:bits_Right.f k w l=_:=h1 k Z0
  show bits_Unsigned.f k w l=_
  rw[bits_Unsigned.f,g1,Option.bind_some,if_neg c]
 have g2:tribunalref09_Right.f k w l=_:=h2 k Z0
 show tribunalref09_Unsigned.f k w l=_
 rw[tribunalref09_Unsigned.f,g2,Option.bind_some,if_neg c]
theorem Signed_both (w:Int) (l:List Int) (hl:l.length≤1048576) (hd:Dig 18446744073709551616 l):∃(n:Int) (s:Bool) (a:List Int) (e:Int),Ev (fun k=>bits_Signed.f k w l) (s,a,e)∧Ev (fun k=>tribunalref09_Signed.f k w l) (s,a,e)∧Num 18446744073709551616 n s a∧a.length≤1048576:=by
 obtain⟨K1,h1⟩:=Right_ev w l hl hd
 obtain⟨K2,h2⟩:=rRight_ev w l hl hd
 by_cases c:rightB w (val 18446744073709551616 l)=true
 ·obtain⟨n,rfl,hn1,hn2,hv⟩:=right_nat c
  rw[c]at h1 h2
  obtain⟨t,a,⟨K3,h3⟩,N3,la⟩:=s_ev n l ⟨hn1,hn2⟩ hl hd hv
  obtain⟨u,b,⟨K4,h4⟩,N4,lb⟩:=rS_ev n l ⟨hn1,hn2⟩ hl hd hv
  obtain⟨r,⟨K5,h5⟩,N5⟩:=To_num N4 Z0
  obtain⟨rfl,rfl⟩:=N3.uniq X0 N5
  refine⟨_,u,r,0,⟨K1+K3,fun k hk=>?_⟩,⟨K2+K4+K5,fun k hk=>?_⟩,N3,Z0⟩
  ·have g1:bits_Right.f k (n:Int) l=_:=h1 k Z0
   have g3:bits_s.f k (n:Int) l=_:=h3 k Z0
   show bits_Signed.f k (n:Int) l=_
   rw[bits_Signed.f,g1,Option.bind_some,if_pos rfl,g3,Option.bind_some]
  have g2:tribunalref09_Right.f k (n:Int) l=_:=h2 k Z0
  have g4:tribunalref09_S.f k (n:Int) l=_:=h4 k Z0
  have g5:tribunalref02_To.f k u b=_:=h5 k Z0
  show tribunalref09_Signed.f k (n:Int) l=_
  rw[tribunalref09_Signed.f,g2,Option.bind_some,if_pos rfl,g4,Option.bind_some,g5,Option.bind_some]
 refine⟨0,false,[],90,⟨K1,fun k hk=>?_⟩,⟨K2,fun k hk=>?_⟩,num_zero,Z1⟩
 ·have g1:bits_Right.f k w l=_:=h1 k Z0
  show bits_Signed.f k w l=_
  rw[bits_Signed.f,g1,Option.bind_some,if_neg c]
 have g2:tribunalref09_Right.f k w l=_:=h2 k Z0
 show tribunalref09_Signed.f k w l=_
 rw[tribunalref09_Signed.f,g2,Option.bind_some,if_neg c]
theorem Same9_l0 (b c:Int) (l:List Int) (hl:l.length≤8388608):∀(n i:Nat),i+n=l.length→∀k,n<k→tribunalref09_Same.l0 k (i:Int) b l c l=some true:=by
 intro n
 induction n with
 | zero=>
  intro i hi k hk
  obtain⟨k,rfl⟩:∃j,k=j+1:=⟨k-1,Z0⟩
  rw[tribunalref09_Same.l0,if_neg Z0]
 | succ n ih=>
  intro i hi k hk
  obtain⟨k,rfl⟩:∃j,k=j+1:=⟨k-1,Z0⟩
  have:=ih (i+1) Z0 k Z0
  rw[tribunalref09_Same.l0,if_pos Z0,if_pos Z0,if_pos Z0,if_pos rfl,w64 _ Z0,show(i:Int)+1=((i+1:Nat):Int) from by omega]
  exact this
theorem Same9_ev (b:Int) (l:List Int) (hl:l.length≤8388608):Ev (fun k=>tribunalref09_Same.f k b l b l) true:=by
 refine⟨l.length+2,fun k hk=>?_⟩
 obtain⟨k,rfl⟩:∃j,k=j+1:=⟨k-1,Z0⟩
 show tribunalref09_Same.f (k+1) b l b l=some true
 have:=Same9_l0 b b l hl l.length 0 Z0 k Z0
 rw[tribunalref09_Same.f,if_pos rfl,show((l.length:Int) != (l.length:Int))=false from by simp,tribunalref09_Same.j0,if_neg Z1]
 exact this
theorem cmp_self {n:Int} {s:Bool} {a:List Int} (h:Num 18446744073709551616 n s a) (la:a.length≤1048576):Ev (fun k=>whole_Cmp.f k s a s a) 0:=by
 have:=(AN.of h la X0:AN 1048576 _ _ _).cmp (AN.of h la X0:AN 1048576 _ _ _) X0 X0
 rw[Int.sub_self]at this
 exact this
end Go.Proofs.YtncomlmhagaajaaGreat.PurePBo
namespace Go.Proofs.YtncomlmhagaajaaGreat.Pure
open Go.RowKit Go.Proofs.YtncomlmhagaajaaGreatW.PrintWords Go.Proofs.YtncomlmhagaajaaGreatW.PrintLast Go.Proofs.YtncomlmhagaajaaGreatW.PrintMore Go.Proofs.YtncomlmhagaajaaGreat.PBo Go.Proofs.YtncomlmhagaajaaGreat Go.Proofs.YtncomlmhagaajaaGreat.Mine Big PurePBo
theorem bitsMakes_pure (w u:Int) (hu:(Lit.int .u64 u).wf=true) (s:Bool) (l:List Int) (hl:l.length≤1048576) (wf:∀z∈l,(Lit.int .u64 z).wf=true) (w2:Int) (l2:List Int) (h2:l2.length≤1048576) (wf2:∀z∈l2,(Lit.int .u64 z).wf=true):∃k,PBo.tribunallaw09_BitsMakes.f k w u s l w2 l2=some true:=by
 have d1:=dig_of_wf wf
 have d2:=dig_of_wf wf2
 obtain⟨⟨x,a,e⟩,⟨K1,h1⟩,⟨K2,h2'⟩,la⟩:=From_both w false [u] Z1 (dig_of_wf (l:=[u]) (fun z hz=>by obtain rfl:z=u:=(by simpa using hz);exact hu))
 obtain⟨⟨y,b,f⟩,⟨K3,h3⟩,⟨K4,h4⟩,lb⟩:=From_both w s l hl d1
 obtain⟨n,t,c,g,⟨K5,h5⟩,⟨K6,h6⟩,N1,lc⟩:=Unsigned_both w2 l2 h2 d2
 obtain⟨m,v,d,i,⟨K7,h7⟩,⟨K8,h8⟩,N2,ld⟩:=Signed_both w2 l2 h2 d2
 obtain⟨K9,h9⟩:=Right_ev w2 l2 h2 d2
 obtain⟨K10,h10⟩:=rRight_ev w2 l2 h2 d2
 obtain⟨K11,h11⟩:=Same9_ev x a la
 obtain⟨K12,h12⟩:=Same9_ev y b lb
 obtain⟨K13,h13⟩:=cmp_self N1 lc
 obtain⟨K14,h14⟩:=cmp_self N2 ld
 obtain⟨K15,h15⟩:=alive_ev
 refine⟨K1+K2+K3+K4+K5+K6+K7+K8+K9+K10+K11+K12+K13+K14+K15,?_⟩
 obtain⟨k,hk⟩:∃k,k=K1+K2+K3+K4+K5+K6+K7+K8+K9+K10+K11+K12+K13+K14+K15:=⟨_,rfl⟩
 rw[←hk]
 have g1:bits_From.f k w false [u]=_:=h1 k Z0
 have g2:tribunalref09_From.f k w false [u]=_:=h2' k Z0
 have g3:bits_From.f k w s l=_:=h3 k Z0
 have g4:tribunalref09_From.f k w s l=_:=h4 k Z0
 have g5:bits_Unsigned.f k w2 l2=_:=h5 k Z0
 have g6:tribunalref09_Unsigned.f k w2 l2=_:=h6 k Z0
 have g7:bits_Signed.f k w2 l2=_:=h7 k Z0
 have g8:tribunalref09_Signed.f k w2 l2=_:=h8 k Z0
 have g9:bits_Right.f k w2 l2=_:=h9 k Z0
 have g10:tribunalref09_Right.f k w2 l2=_:=h10 k Z0
 have g11:tribunalref09_Same.f k x a x a=_:=h11 k Z0
 have g12:tribunalref09_Same.f k y b y b=_:=h12 k Z0
 have g13:whole_Cmp.f k t c t c=_:=h13 k Z0
 have g14:whole_Cmp.f k v d v d=_:=h14 k Z0
 have g15:tribunallaw09_alive.f k=_:=h15 k Z0
 rw[tribunallaw09_BitsMakes.f,bits_Of.f,g1,Option.bind_some,Option.bind_some,tribunalref09_Of.f,g2,Option.bind_some,Option.bind_some,g3,Option.bind_some,g4,Option.bind_some,g5,Option.bind_some,g6,Option.bind_some,g7,Option.bind_some,g8,Option.bind_some,g11,Option.bind_some,if_pos rfl,if_pos rfl,g12,Option.bind_some,if_pos rfl,if_pos rfl,g13,Option.bind_some,if_pos rfl,if_pos rfl,g14,Option.bind_some,if_pos rfl,if_pos rfl,g9,Option.bind_some,g10,Option.bind_some,if_pos (beq_self_eq_true _),g15,Option.bind_some]
end Go.Proofs.YtncomlmhagaajaaGreat.Pure
