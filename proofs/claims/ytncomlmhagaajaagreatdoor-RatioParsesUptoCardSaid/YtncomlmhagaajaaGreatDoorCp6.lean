/- Part 6 of what the card rests on. -/
import Derived.Lib.ItoaNum
import Derived.Test.YtncomlmhagaajaaGreatDoorCp5
set_option maxHeartbeats 8000000
set_option maxRecDepth 100000
set_option linter.unusedVariables false
set_option linter.unusedSimpArgs false
namespace Go.Proofs.YtncomlmhagaajaaGreatDoor.PurePRp
open Go.RowKit Go.Proofs.YtncomlmhagaajaaGreatDoorW.PrintWords Go.Proofs.YtncomlmhagaajaaGreatDoorW.PrintLast Go.Proofs.YtncomlmhagaajaaGreatDoorW.PrintMore Go.Proofs.YtncomlmhagaajaaGreatDoor.PRp Go.Proofs.YtncomlmhagaajaaGreatDoor Go.Proofs.YtncomlmhagaajaaGreatDoor.Mine Big
theorem up_or {s P Q:Int} (h:Sh s P Q) {o x:Int} (hx:0≤x∧x<18446744073709551616) (ho:0≤o∧o<P):Go.bits .or .u64 o (x%Q*P)=o+x%Q*P:=by
 obtain⟨t,et,_⟩:=h.P1
 obtain⟨_,_,_,e4,e5,_⟩:=shl_parts h.P0 h.Q0 h.PQ hx
 have hP:=h.P_le
 rw[(or_add t ⟨e4,e5⟩ ⟨x%Q,by rw[et]⟩ (by rw[←et];exact ho) Z0).2,Int.add_comm]
theorem up_out0 {s P Q:Int} (h:Sh s P Q) (h0:¬s>0) {x:Int} (hx:0≤x∧x<18446744073709551616):x/Q=0:=by
 obtain⟨t,et,es⟩:=h.P1
 have hs:=h.s0
 have hP1:P=1:=by rw[et,←es,show s=0 from by omega];rfl
 have hQ1:Q=18446744073709551616:=by have:=h.PQ;rw[hP1]at this;omega
 rw[hQ1];exact Int.ediv_eq_zero_of_lt hx.1 hx.2
theorem set_same (l:List Int) (i:Nat) (h:l.getD i 0=0):l.set i 0=l:=by
 refine List.ext_getElem Z1 fun j h1 h2=>?_
 by_cases hj:j=i
 ·subst hj
  rw[List.getElem_set_self]
  rw[List.getD_eq_getElem?_getD,List.getElem?_eq_getElem h2,Option.getD_some]at h
  exact h.symm
 rw[List.getElem_set_ne (fun e=>hj e.symm)]
theorem step_wrap (i n:Nat) (hi:i<n) (hn:n≤8388608):wrap64 ((i:Int)+1)=((i+1:Nat):Int):=by rw[w64 _ Z0];omega
theorem up_step (k:Nat) {s P Q:Int} (h:Sh s P Q) (a out:List Int) (i:Nat) (hi:i<a.length) (hl:a.length≤8388608) (ho:out.length=a.length+1) (da:Dig 18446744073709551616 a) (hw:0≤out.getD i 0∧out.getD i 0<P) (hz:out.getD (i+1) 0=0) :
  whole_amount_up.l0 (k+1) s out a (a.length:Int) (i:Int)=whole_amount_up.l0 k s ((out.set i (out.getD i 0+a.getD i 0%Q*P)).set (i+1) (a.getD i 0/Q)) a (a.length:Int) ((i+1:Nat):Int):=by
 have ga:=getD_dig J0 da i
 have hor:=up_or h ga hw
 have hwr:=step_wrap i a.length hi hl
 have hout:=fun h0=>up_out0 h h0 ga
 have c1:(i:Int)<(a.length:Int):=by omega
 have c2:(0:Int)≤(i:Int):=by omega
 have c3:(i:Int)<(out.length:Int):=by omega
 have c4:=h.s0.1
 have c5:(0:Int)≤((i+1:Nat):Int):=by omega
 have c6:((i+1:Nat):Int)<(out.length:Int):=by omega
 have c7:(0:Int)≤64-s:=by have:=h.s0;omega
 have hcount:=h.count
 have hL:=h.eqL ga
 have hR:=h.eqR' (x:=a.getD i 0)
 have hset:=set_same (out.set i (out.getD i 0+a.getD i 0%Q*P)) (i+1) (by rw[getD_set_ne _ _ _ _ Z0];exact hz)
 have ra:=rd_getD a i
 have ro:=rd_getD out i
 generalize a.getD i 0=x at *
 generalize out.getD i 0=o at *
 clear da hw ga hl hi hz
 rw[whole_amount_up.l0,if_pos c1,if_pos c2,if_pos c1,if_pos c3,if_pos c4,Option.bind_some,ra,ro,hL,hor,hwr,Int.toNat_natCast,Int.toNat_natCast]
 by_cases h0:s>0
 ·rw[if_pos h0,hcount,if_pos c7,if_pos c5,if_pos c6,hR]
 have hx0:=hout h0
 rw[if_neg h0,hx0,hset]
theorem up_l0 {s P Q:Int} (h:Sh s P Q) (a:List Int) (hl:a.length≤8388608) (da:Dig 18446744073709551616 a):∀(n i k:Nat) (out:List Int),i+n=a.length→n<k→out.length=a.length+1→Dig 18446744073709551616 out→val 18446744073709551616 out=val 18446744073709551616 (a.take i)*P→out.getD i 0<P→(∀t,i<t→out.getD t 0=0) →
  ∃r,whole_amount_up.l0 k s out a (a.length:Int) (i:Int)=some r∧r.length=a.length+1∧Dig 18446744073709551616 r∧val 18446744073709551616 r=val 18446744073709551616 a*P:=by
 intro n
 induction n with
 | zero=>
  intro i k out hi hk ho hd hv hw hz
  obtain⟨k,rfl⟩:∃j,k=j+1:=⟨k-1,Z0⟩
  refine⟨out,?_,ho,hd,by rw[hv,show i=a.length from by omega,List.take_length]⟩
  rw[whole_amount_up.l0,if_neg Z0]
 | succ n ih=>
  intro i k out hi hk ho hd hv hw hz
  obtain⟨k,rfl⟩:∃j,k=j+1:=⟨k-1,Z0⟩
  have hil:i<a.length:=by omega
  have ga:=getD_dig J0 da i
  have go:=getD_dig J0 hd i
  have hz1:=hz (i+1) Z0
  obtain⟨e1,e2,e3,e4,e5,e6⟩:=shl_parts h.P0 h.Q0 h.PQ ga
  rw[up_step k h a out i hil hl ho da ⟨go.1,hw⟩ hz1]
  have hP:=h.P_le
  have hsum:0≤out.getD i 0+a.getD i 0%Q*P∧out.getD i 0+a.getD i 0%Q*P<18446744073709551616:=by
   refine⟨Z0,?_⟩
   have h1:a.getD i 0%Q+1≤Q:=by have:=Int.emod_lt_of_pos (a.getD i 0) h.Q0;omega
   have h2:=Int.mul_le_mul_of_nonneg_right h1 (Int.le_of_lt h.P0)
   rw[Int.mul_comm Q P,h.PQ,Int.add_mul,Int.one_mul]at h2
   omega
  refine ih (i+1) k _ Z0 Z0 (by simp[ho]) ((hd.set i hsum).set (i+1) ⟨e2,Z0⟩) ?_ ?_ ?_
  ·rw[val_set_getD _ _ _ _ (by simp[ho];omega),val_set_getD _ _ _ _ Z0,getD_set_ne _ _ _ _ Z0,hz1,val_take_getD,hv,Int.pow_succ,Int.add_mul]
   have e7:a.getD i 0*18446744073709551616^i*P=(a.getD i 0*P)*18446744073709551616^i:=by rw[Int.mul_assoc,Int.mul_comm (18446744073709551616^i) P,←Int.mul_assoc]
   rw[e7,e1,Int.add_mul,Int.mul_comm (18446744073709551616^i) 18446744073709551616,←Int.mul_assoc,Int.sub_zero,show out.getD i 0+a.getD i 0%Q*P-out.getD i 0=a.getD i 0%Q*P from by omega]
   omega
  ·rw[getD_set_eq _ _ _ (by simp[ho];omega)];exact e3
  intro t ht
  rw[getD_set_ne _ _ _ _ Z0,getD_set_ne _ _ _ _ Z0]
  exact hz t Z0
theorem up_ev {s P Q:Int} (h:Sh s P Q) (a:List Int) (hl:a.length≤8388600) (da:Dig 18446744073709551616 a) :
  ∃r,Ev (fun k=>whole_amount_up.f k a s) r∧r.length=a.length+1∧Dig 18446744073709551616 r∧val 18446744073709551616 r=val 18446744073709551616 a*P:=by
 have hz:∀t,(List.replicate (a.length+1) (0:Int)).getD t 0=0:=fun t=>by
  simp[List.getD_eq_getElem?_getD,List.getElem?_replicate];split<;>rfl
 obtain⟨r,hr,hq⟩:=up_l0 h a Z0 da a.length 0 (a.length+1) (List.replicate (a.length+1) 0) Z0 Z0 Z1 (Dig.rep J0 _) (by rw[val_replicate];simp[val]) (by rw[hz];exact h.P0) (fun t _=>hz t)
 refine⟨r,?_,hq⟩
 have hw:wrap64 ((a.length:Int)+1)=((a.length+1:Nat):Int):=by rw[w64 _ Z0];omega
 refine Ev.of (fun k=>whole_amount_up.mono a s k) (k:=a.length+1) ?_
 rw[whole_amount_up.f,hw,Int.toNat_natCast,if_pos Z0,if_pos Z0]
 exact hr
theorem val_take_set (B:Int) (l:List Int) (i:Nat) (x:Int) (h:i<l.length):val B ((l.set i x).take (i+1))=val B (l.take i)+x*B^i:=by
 rw[val_take_getD,getD_set_eq _ _ _ h]
 congr 1
 rw[List.take_set_of_le (Nat.le_refl _)]
theorem mul_carry {g v c:Int} (hg:0≤g∧g<18446744073709551616) (hv:0≤v∧v<18446744073709551616) (hc:0≤c∧c<18446744073709551616) :
  ∃hi lo lo2 c2,bits_Mul64.f g v=some (hi,lo)∧bits_Add64.f lo c 0=some (lo2,c2)∧0≤lo2∧lo2<18446744073709551616∧0≤hi+c2∧hi+c2<18446744073709551616∧(hi+c2)*18446744073709551616+lo2=g*v+c:=by
 have hb:=mul_bound (M:=18446744073709551615) (x:=g) (y:=v) Z0 Z0
 refine⟨_,_,_,_,Mul64_eq g v hg hv,Add64_eq _ _ _ Z0 hc.1 Z0,?_⟩
 generalize g*v=p at *
 refine⟨Z0,Z0,Z0,Z0,Z0⟩
theorem sub_carry {u lo b:Int} (hu:0≤u∧u<18446744073709551616) (hl:0≤lo∧lo<18446744073709551616) (hb:0≤b∧b≤1) :
  ∃s b2,bits_Sub64.f u lo b=some (s,b2)∧0≤s∧s<18446744073709551616∧0≤b2∧b2≤1∧s=u-lo-b+b2*18446744073709551616:=by
 refine⟨_,_,Sub64_eq u lo b hu.1 hl hb,Z0,Z0,Y9,Y9,Y9⟩
theorem sub_inv {N U V g u v c b c2 b2 s lo W B:Int} (hN:N=U-g*V+(c+b)*W) (h1:c2*B+lo=g*v+c) (h2:s=u-lo-b+b2*B):N+s*W=(U+u*W)-g*(V+v*W)+(c2+b2)*(W*B):=by
 have e1:g*(V+v*W)=g*V+(g*v)*W:=by rw[Int.mul_add,Int.mul_assoc]
 have e2:(c2+b2)*(W*B)=(c2*B)*W+(b2*B)*W:=by rw[Int.add_mul,Int.mul_comm W B,←Int.mul_assoc,←Int.mul_assoc]
 have e3:g*v=c2*B+lo-c:=by omega
 rw[e1,e2,hN,h2,e3]
 simp only[Int.add_mul,Int.sub_mul]
 omega
theorem subtract_step (k:Nat) (x v:List Int) (g c b hi lo lo2 c2 s b2:Int) (i n:Nat) (hn:v.length=n) (hi1:i<n) (hl:n≤8388608) (hx:i<x.length) (h1:bits_Mul64.f g (v.getD i 0)=some (hi,lo)) (h2:bits_Add64.f lo c 0=some (lo2,c2)) (h3:bits_Sub64.f (x.getD i 0) lo2 b=some (s,b2)) (h4:0≤hi+c2∧hi+c2<18446744073709551616) :
  whole_subtract.l0 (k+1) x v g c b v (n:Int) (i:Int)=whole_subtract.l0 k (x.set i s) v g (hi+c2) b2 v (n:Int) ((i+1:Nat):Int):=by
 have hwr:=step_wrap i n hi1 hl
 rw[whole_subtract.l0,if_pos Z0,if_pos Z0,if_pos Z0,rd_getD,rd_getD,h1,Option.bind_some,h2,Option.bind_some,if_pos Z0,h3,Option.bind_some,hwr,u64_in h4,Int.toNat_natCast]
theorem subtract_end (k:Nat) (x v:List Int) (g c b s b2:Int) (n:Nat) (hn:v.length=n) (hx:n<x.length) (h3:bits_Sub64.f (x.getD n 0) c b=some (s,b2)) :
  whole_subtract.l0 (k+1) x v g c b v (n:Int) (n:Int)=some ((b2==1),x.set n s):=by
 rw[whole_subtract.l0,if_neg Z0,hn,if_pos Z0,if_pos Z0,rd_getD,h3,Option.bind_some,Int.toNat_natCast]
theorem subtract_l0 (v:List Int) (g:Int) (n:Nat) (hn:v.length=n) (hl:n≤8388608) (hg:0≤g∧g<18446744073709551616) (dv:Dig 18446744073709551616 v) (u:List Int) (hu:u.length=n+1) (du:Dig 18446744073709551616 u):∀(m i k:Nat) (x:List Int) (c b:Int),i+m=n→m<k→x.length=n+1→Dig 18446744073709551616 x→(∀t,i≤t→x.getD t 0=u.getD t 0)→0≤c∧c<18446744073709551616→0≤b∧b≤1→val 18446744073709551616 (x.take i)=val 18446744073709551616 (u.take i)-g*val 18446744073709551616 (v.take i)+(c+b)*18446744073709551616^i →
  ∃(b2:Int) (r:List Int),whole_subtract.l0 k x v g c b v (n:Int) (i:Int)=some ((b2==1),r)∧0≤b2∧b2≤1∧r.length=n+1∧Dig 18446744073709551616 r∧val 18446744073709551616 r=val 18446744073709551616 u-g*val 18446744073709551616 v+b2*18446744073709551616^(n+1):=by
 intro m
 induction m with
 | zero=>
  intro i k x c b hi hk hx dx hxu hc hb hv
  obtain⟨k,rfl⟩:∃j,k=j+1:=⟨k-1,Z0⟩
  have hin:i=n:=by omega
  subst hin
  have gu:=getD_dig J0 du i
  obtain⟨s,b2,h3,s0,s1,b0,b1,hs⟩:=sub_carry (u:=x.getD i 0) (by rw[hxu i (Nat.le_refl _)];exact gu) hc hb
  refine⟨b2,x.set i s,subtract_end k x v g c b s b2 i hn Z0 h3,b0,b1,by simp[hx],dx.set i ⟨s0,s1⟩,?_⟩
  have e1:x.set i s=(x.set i s).take (i+1):=by rw[List.take_of_length_le (by simp[hx])]
  have e2:val 18446744073709551616 u=val 18446744073709551616 (u.take i)+u.getD i 0*18446744073709551616^i:=by
   rw[←val_take_getD,List.take_of_length_le Z0]
  rw[e1,val_take_set _ _ _ _ Z0,hv,hs,hxu i (Nat.le_refl _),e2,show v.take i=v from List.take_of_length_le Z0,Int.pow_succ]
  have e3:b2*(18446744073709551616^i*18446744073709551616)=b2*18446744073709551616*18446744073709551616^i:=by rw[Int.mul_comm (18446744073709551616^i),←Int.mul_assoc]
  rw[e3]
  simp only[Int.add_mul,Int.sub_mul]
  omega
 | succ m ih=>
  intro i k x c b hi hk hx dx hxu hc hb hv
  obtain⟨k,rfl⟩:∃j,k=j+1:=⟨k-1,Z0⟩
  have gu:=getD_dig J0 du i
  have gv:=getD_dig J0 dv i
  obtain⟨hi',lo,lo2,c2,h1,h2,l0,l1,p0,p1,hp⟩:=mul_carry hg gv hc
  obtain⟨s,b2,h3,s0,s1,b0,b1,hs⟩:=sub_carry (u:=x.getD i 0) (by rw[hxu i (Nat.le_refl _)];exact gu) ⟨l0,l1⟩ hb
  rw[subtract_step k x v g c b hi' lo lo2 c2 s b2 i n hn Z0 hl Z0 h1 h2 h3 ⟨p0,p1⟩]
  refine ih (i+1) k (x.set i s) (hi'+c2) b2 Z0 Z0 (by simp[hx]) (dx.set i ⟨s0,s1⟩) (fun t ht=>by rw[getD_set_ne _ _ _ _ Z0];exact hxu t Z0) ⟨p0,p1⟩ ⟨b0,b1⟩ ?_
  rw[val_take_set _ _ _ _ Z0,val_take_getD,val_take_getD,Int.pow_succ]
  rw[hxu i (Nat.le_refl _)]at hs
  exact sub_inv hv hp hs
theorem subtract_ev (u v:List Int) (g:Int) (n:Nat) (hn:v.length=n) (hl:n≤8388608) (hg:0≤g∧g<18446744073709551616) (dv:Dig 18446744073709551616 v) (hu:u.length=n+1) (du:Dig 18446744073709551616 u) :
  ∃(b2:Int) (r:List Int),Ev (fun k=>whole_subtract.f k u v g) ((b2==1),r)∧0≤b2∧b2≤1∧r.length=n+1∧Dig 18446744073709551616 r∧val 18446744073709551616 r=val 18446744073709551616 u-g*val 18446744073709551616 v+b2*18446744073709551616^(n+1):=by
 obtain⟨b2,r,hr,hq⟩:=subtract_l0 v g n hn hl hg dv u hu du n 0 (n+1) u 0 0 Z0 Z0 hu du (fun _ _=>rfl) Z0 Z0 Ya
 refine⟨b2,r,Ev.of (fun k=>whole_subtract.mono u v g k) (k:=n+1) ?_,hq⟩
 rw[whole_subtract.f,hn]
 exact hr
theorem add_step' (k:Nat) (x v:List Int) (c:Int) (i n:Nat) (hn:v.length=n) (hi1:i<n) (hl:n≤8388608) (hx:i<x.length) (dx:Dig 18446744073709551616 x) (dv:Dig 18446744073709551616 v) (hc:0≤c∧c≤1) :
  whole_add.l0 (k+1) x v c v (n:Int) (i:Int)=whole_add.l0 k (x.set i ((x.getD i 0+v.getD i 0+c)%18446744073709551616)) v ((x.getD i 0+v.getD i 0+c)/18446744073709551616) v (n:Int) ((i+1:Nat):Int):=by
 have hwr:=step_wrap i n hi1 hl
 have gx:=getD_dig J0 dx i
 have gv:=getD_dig J0 dv i
 rw[whole_add.l0,if_pos Z0,if_pos Z0,if_pos Z0,if_pos Z0,rd_getD,rd_getD,Add64_eq _ _ _ gx.1 gv.1 hc,Option.bind_some,hwr,Int.toNat_natCast]
theorem add_end (k:Nat) (x v:List Int) (c:Int) (n:Nat) (hn:v.length=n) (hx:n<x.length) :
  whole_add.l0 (k+1) x v c v (n:Int) (n:Int)=some (x.set n (IntKind.u64.wrap (x.getD n 0+c))):=by
 rw[whole_add.l0,if_neg Z0,hn,if_pos Z0,if_pos Z0,rd_getD,Int.toNat_natCast]
theorem add_l0 (v:List Int) (n:Nat) (hn:v.length=n) (hl:n≤8388608) (dv:Dig 18446744073709551616 v) (u:List Int) (hu:u.length=n+1) (du:Dig 18446744073709551616 u):∀(m i k:Nat) (x:List Int) (c:Int),i+m=n→m<k→x.length=n+1→Dig 18446744073709551616 x→(∀t,i≤t→x.getD t 0=u.getD t 0)→0≤c∧c≤1→val 18446744073709551616 (x.take i)+c*18446744073709551616^i=val 18446744073709551616 (u.take i)+val 18446744073709551616 (v.take i) →
  ∃(b2:Int) (r:List Int),whole_add.l0 k x v c v (n:Int) (i:Int)=some r∧0≤b2∧r.length=n+1∧Dig 18446744073709551616 r∧val 18446744073709551616 r+b2*18446744073709551616^(n+1)=val 18446744073709551616 u+val 18446744073709551616 v:=by
 intro m
 induction m with
 | zero=>
  intro i k x c hi hk hx dx hxu hc hv
  obtain⟨k,rfl⟩:∃j,k=j+1:=⟨k-1,Z0⟩
  have hin:i=n:=by omega
  subst hin
  have gu:=getD_dig J0 du i
  rw[add_end k x v c i hn Z0,hxu i (Nat.le_refl _),IntKind.wrap_u64]
  refine⟨(u.getD i 0+c)/18446744073709551616,_,rfl,Z0,by simp[hx],dx.set i Z0,?_⟩
  have e1:∀y,x.set i y=(x.set i y).take (i+1):=fun y=>by rw[List.take_of_length_le (by simp[hx])]
  have e2:val 18446744073709551616 u=val 18446744073709551616 (u.take i)+u.getD i 0*18446744073709551616^i:=by
   rw[←val_take_getD,List.take_of_length_le Z0]
  rw[e1,val_take_set _ _ _ _ Z0,e2,Int.pow_succ]
  rw[show v.take i=v from List.take_of_length_le Z0]at hv
  have:=add_step (val 18446744073709551616 (x.take i)) c ((u.getD i 0+c)/18446744073709551616) ((u.getD i 0+c)%18446744073709551616) (u.getD i 0) 0 _ _ (18446744073709551616^i) 18446744073709551616 Z0 hv
  omega
 | succ m ih=>
  intro i k x c hi hk hx dx hxu hc hv
  obtain⟨k,rfl⟩:∃j,k=j+1:=⟨k-1,Z0⟩
  have gu:=getD_dig J0 du i
  have gv:=getD_dig J0 dv i
  rw[add_step' k x v c i n hn Z0 hl Z0 dx dv hc,hxu i (Nat.le_refl _)]
  refine ih (i+1) k _ _ Z0 Z0 (by simp[hx]) (dx.set i Z0) (fun t ht=>by rw[getD_set_ne _ _ _ _ Z0];exact hxu t Z0) Z0 ?_
  rw[val_take_set _ _ _ _ Z0,val_take_getD,val_take_getD,Int.pow_succ]
  exact add_step _ c _ _ _ _ _ _ _ _ Z0 hv
theorem add_ev' (u v:List Int) (n:Nat) (hn:v.length=n) (hl:n≤8388608) (dv:Dig 18446744073709551616 v) (hu:u.length=n+1) (du:Dig 18446744073709551616 u) :
  ∃(b2:Int) (r:List Int),Ev (fun k=>whole_add.f k u v) r∧0≤b2∧r.length=n+1∧Dig 18446744073709551616 r∧val 18446744073709551616 r+b2*18446744073709551616^(n+1)=val 18446744073709551616 u+val 18446744073709551616 v:=by
 obtain⟨b2,r,hr,hq⟩:=add_l0 v n hn hl dv u hu du n 0 (n+1) u 0 Z0 Z0 hu du (fun _ _=>rfl) Z0 Ya
 refine⟨b2,r,Ev.of (fun k=>whole_add.mono u v k) (k:=n+1) ?_,hq⟩
 rw[whole_add.f,hn]
 exact hr
theorem bitLen_up {x:Nat} (h0:0<x) (h:x<2^64):1≤Lib.bitLen x∧Lib.bitLen x≤64∧x<2^Lib.bitLen x∧2^(Lib.bitLen x-1)≤x:=by
 have h1:=Lib.bitLen_half x Z0 h
 have h2:=Lib.bitLen_le x 64 Z0 h
 refine⟨Z0,h2,?_,?_⟩
 ·refine Classical.byContradiction fun hc=>?_
  have h3:=Lib.bitLen_shift (Lib.bitLen x) x Z0 h
  have h4:0<x/2^Lib.bitLen x:=Nat.div_pos Z0 (Nat.pow_pos J0)
  have h5:=Lib.bitLen_half (x/2^Lib.bitLen x) Z0 (Nat.lt_of_le_of_lt (Nat.div_le_self _ _) h)
  omega
 refine Classical.byContradiction fun hc=>?_
 have h3:=Lib.bitLen_le x (Lib.bitLen x-1) Z0 Z0
 omega
theorem clz {x:Int} (h:0<x∧x<18446744073709551616):∃s P Q,bits_LeadingZeros64.f x=some s∧Sh s P Q∧9223372036854775808≤x*P∧x*P<18446744073709551616:=by
 obtain⟨n,rfl⟩:=Int.eq_ofNat_of_zero_le (Int.le_of_lt h.1)
 have hn:0<n∧n<2^64:=by omega
 obtain⟨b1,b2,b3,b4⟩:=bitLen_up hn.1 hn.2
 refine⟨64-(Lib.bitLen n:Int),2^(64-Lib.bitLen n),2^Lib.bitLen n,?_,⟨Z0,Int.pow_pos J0,Int.pow_pos J0,?_,⟨_,rfl,Z0⟩,⟨_,rfl,Z0⟩⟩,?_,?_⟩
 ·rw[bits_LeadingZeros64.f,if_pos Z0,Int.toNat_natCast]
 ·rw[←Int.pow_add,show 64-Lib.bitLen n+Lib.bitLen n=64 from by omega];decide
 ·have e:(9223372036854775808:Int)=((2^(Lib.bitLen n-1)*2^(64-Lib.bitLen n):Nat):Int):=by
   rw[←Nat.pow_add,show Lib.bitLen n-1+(64-Lib.bitLen n)=63 from by omega];rfl
  rw[e,show((n:Int)*2^(64-Lib.bitLen n))=((n*2^(64-Lib.bitLen n):Nat):Int) from by simp]
  exact Int.ofNat_le.2 (Nat.mul_le_mul_right _ b4)
 have e:(18446744073709551616:Int)=((2^Lib.bitLen n*2^(64-Lib.bitLen n):Nat):Int):=by
  rw[←Nat.pow_add,show Lib.bitLen n+(64-Lib.bitLen n)=64 from by omega];rfl
 rw[e,show((n:Int)*2^(64-Lib.bitLen n))=((n*2^(64-Lib.bitLen n):Nat):Int) from by simp]
 exact Int.ofNat_lt.2 (Nat.mul_lt_mul_of_pos_right b3 (Nat.pow_pos J0))
theorem scale_div {X a P G r:Int} (hP:0<P) (ha:0<a) (h:X*P=G*(a*P)+r) (h0:0≤r) (h1:r<a*P):X/a=G∧X%a=r/P:=by
 have e:r=(X-G*a)*P:=by rw[Int.sub_mul,h,Int.mul_assoc];omega
 have d0:0≤X-G*a:=by
  refine Classical.byContradiction fun hc=>?_
  have:=Int.mul_le_mul_of_nonneg_right (show X-G*a ≤ -1 by omega) (Int.le_of_lt hP)
  omega
 have d1:X-G*a<a:=by
  refine Classical.byContradiction fun hc=>?_
  have:=Int.mul_le_mul_of_nonneg_right (show a≤X-G*a by omega) (Int.le_of_lt hP)
  omega
 have hq:X/a=G:=div_eq ha Z0 Xa
 refine⟨hq,?_⟩
 have h2:=Int.mul_ediv_add_emod X a
 rw[hq,Int.mul_comm a G]at h2
 rw[e,Int.mul_ediv_cancel _ (Int.ne_of_gt hP)]
 omega
theorem tdivmod {u d:Int} (hu:0≤u∧u<18446744073709551616) (hd:0<d):IntKind.u64.wrap (Int.tdiv u d)=u/d∧IntKind.u64.wrap (u-IntKind.u64.wrap (IntKind.u64.wrap (Int.tdiv u d)*d))=u%d:=by
 have h1:=Int.mul_ediv_add_emod u d
 have h2:=Int.emod_nonneg u (Int.ne_of_gt hd)
 have h3:=Int.emod_lt_of_pos u hd
 have h4:0≤u/d:=Int.ediv_nonneg hu.1 (Int.le_of_lt hd)
 have h5:u/d≤u:=by
  have:=Int.mul_le_mul_of_nonneg_right (show(1:Int)≤d by omega) h4
  rw[Int.one_mul]at this;omega
 have e:IntKind.u64.wrap (Int.tdiv u d)=u/d:=by
  rw[Int.tdiv_eq_ediv_of_nonneg hu.1,u64_in ⟨h4,Z0⟩]
 refine⟨e,?_⟩
 have h6:0≤u/d*d:=Int.mul_nonneg h4 (Int.le_of_lt hd)
 rw[Int.mul_comm]at h1
 rw[e,u64_in (x:=u/d*d) ⟨h6,Z0⟩,show u-u/d*d=u%d from by omega,u64_in ⟨h2,Z0⟩]
theorem rest_eq {y u d g:Int} (hy:0<y∧y<18446744073709551616) (hg:(u*4294967296+d)/y=g):IntKind.u64.wrap (IntKind.u64.wrap (IntKind.u64.wrap (u*4294967296)+d)-IntKind.u64.wrap (g*y))=(u*4294967296+d)%y:=by
 have h1:=Int.emod_nonneg (u*4294967296+d) (show y≠0 by omega)
 have h2:=Int.emod_lt_of_pos (u*4294967296+d) hy.1
 have h3:=Int.mul_ediv_add_emod (u*4294967296+d) y
 rw[hg,Int.mul_comm y g]at h3
 simp only[IntKind.wrap_u64]
 omega
theorem Div64_j2 {y yn1 yn0 u d1 d0 s P Q:Int} (hs:Sh s P Q) (hy:y=yn1*4294967296+yn0) (y1:2147483648≤yn1∧yn1<4294967296) (y0:0≤yn0∧yn0<4294967296) (hu:0≤u∧u<y) (h1:0≤d1∧d1<4294967296) (h0:0≤d0∧d0<4294967296) :
  Ev (fun k=>bits_Div64.j2 k y s yn1 yn0 u d1 d0 ((u*4294967296+d1)/y)) ((u*4294967296+d1)/y*4294967296+((u*4294967296+d1)%y*4294967296+d0)/y,((u*4294967296+d1)%y*4294967296+d0)%y/P):=by
 have hyM:0<y∧y<18446744073709551616:=by omega
 have hst:=Half.start hy y1 y0 hu h1
 have hr0:=Int.emod_nonneg (u*4294967296+d1) (show y≠0 by omega)
 have hr1:=Int.emod_lt_of_pos (u*4294967296+d1) hyM.1
 obtain⟨K,hK⟩:=Div64_l1 hs hyM ((u*4294967296+d1)/y) hst.quot _ _ _ (Nat.le_refl _) (Half.start hy y1 y0 ⟨hr0,hr1⟩ h0)
 obtain⟨t1,t2⟩:=tdivmod (u:=(u*4294967296+d1)%y) (d:=yn1) ⟨hr0,Z0⟩ Z0
 have he:=rest_eq hyM (rfl:(u*4294967296+d1)/y=_)
 refine⟨K+1,fun k hk=>?_⟩
 obtain⟨k,rfl⟩:∃j,k=j+1:=⟨k-1,Z0⟩
 have hk:=hK k Z0
 show bits_Div64.j2 (k+1) y s yn1 yn0 u d1 d0 ((u*4294967296+d1)/y)=_
 rw[bits_Div64.j2,if_neg (show ¬yn1=0 by omega),he,t2,t1]
 exact hk
theorem Div64_ev {a0 a1 a2:Int} (h0:0≤a0∧a0<a2) (h1:0≤a1∧a1<18446744073709551616) (h2:a2<18446744073709551616):Ev (fun k=>bits_Div64.f k a0 a1 a2) ((a0*18446744073709551616+a1)/a2,(a0*18446744073709551616+a1)%a2):=by
 by_cases hz:a0=0
 ·refine⟨0,fun k _=>?_⟩
  show bits_Div64.f k a0 a1 a2=_
  have h4:0≤a1/a2:=Int.ediv_nonneg h1.1 Z0
  have h5:a1/a2≤a1:=Int.ediv_le_self _ h1.1
  rw[bits_Div64.f,if_neg Z0,if_neg Z0,if_pos hz,Int.tdiv_eq_ediv_of_nonneg h1.1,Int.tmod_eq_emod_of_nonneg h1.1,u64_in ⟨h4,Z0⟩,hz,Int.zero_mul,Int.zero_add]
 obtain⟨s,P,Q,hc,hs,hP1,hP2⟩:=clz (x:=a2) Z0
 have hs0:=hs.s0
 have hP0:=hs.P0
 have hQ0:=hs.Q0
 have haQ:a2<Q:=by
  refine Classical.byContradiction fun hx=>?_
  have:=Int.mul_le_mul_of_nonneg_right (show Q≤a2 by omega) (Int.le_of_lt hP0)
  rw[Int.mul_comm Q P,hs.PQ]at this
  omega
 have e2:shl .u64 a2 s=a2*P:=by rw[hs.eqL Z0,Int.emod_eq_of_lt Z0 haQ]
 have e0:shl .u64 a0 s=a0*P:=by rw[hs.eqL Z0,Int.emod_eq_of_lt Z0 Z0]
 have e1:shl .u64 a1 s=a1%Q*P:=hs.eqL h1
 have e3:shr .u64 a1 (64-s)=a1/Q:=hs.eqR'
 obtain⟨p1,p2,p3,p4,p5,_⟩:=shl_parts hP0 hQ0 hs.PQ h1
 obtain⟨t,et,_⟩:=hs.P1
 have a0P:0≤a0*P:=Int.mul_nonneg h0.1 (Int.le_of_lt hP0)
 have a0P2:a0*P+P≤a2*P:=by
  have:=Int.mul_le_mul_of_nonneg_right (show a0+1≤a2 by omega) (Int.le_of_lt hP0)
  rw[Int.add_mul,Int.one_mul]at this;exact this
 have hPle:=hs.P_le
 have eor:Go.bits .or .u64 (a0*P) (a1/Q)=a0*P+a1/Q:=(or_add t ⟨a0P,Z0⟩ ⟨a0,by rw[et]⟩ (by rw[←et];exact⟨p2,p3⟩) Z0).1
 have hX:(a0*18446744073709551616+a1)*P=(a0*P+a1/Q)*18446744073709551616+a1%Q*P:=by
  rw[Int.add_mul,Int.add_mul,p1,Int.mul_assoc,Int.mul_comm 18446744073709551616 P,←Int.mul_assoc];omega
 have hw1:IntKind.u64.wrap s=s:=u64_in Z0
 have hcnt:=hs.count
 clear p1
 generalize hyy:a2*P=y at *
 generalize huu:a0*P+a1/Q=u at *
 generalize hww:a1%Q*P=w at *
 have hu:0≤u∧u<y:=by omega
 have hyn:y=y/4294967296*4294967296+y%4294967296:=by omega
 have y1:2147483648≤y/4294967296∧y/4294967296<4294967296:=by omega
 have y0:0≤y%4294967296∧y%4294967296<4294967296:=by omega
 have w1:0≤w/4294967296∧w/4294967296<4294967296:=by omega
 have w0:0≤w%4294967296∧w%4294967296<4294967296:=by omega
 obtain⟨K,hK⟩:=Div64_l0 s (w%4294967296) _ (Div64_j2 hs hyn y1 y0 hu w1 w0) _ _ _ (Nat.le_refl _) (Half.start hyn y1 y0 hu w1)
 obtain⟨t1,t2⟩:=tdivmod (u:=u) (d:=y/4294967296) Z0 Z0
 have hres:=scale_div (X:=a0*18446744073709551616+a1) (a:=a2) (P:=P) (G:=(u*4294967296+w/4294967296)/y*4294967296+((u*4294967296+w/4294967296)%y*4294967296+w%4294967296)/y) (r:=((u*4294967296+w/4294967296)%y*4294967296+w%4294967296)%y) hP0 Z0 (by
  have g1:=Int.mul_ediv_add_emod (u*4294967296+w/4294967296) y
  have g2:=Int.mul_ediv_add_emod ((u*4294967296+w/4294967296)%y*4294967296+w%4294967296) y
  rw[hX,hyy,Int.add_mul,Int.mul_comm _ y,Int.mul_comm _ y,←Int.mul_assoc]
  omega) (Int.emod_nonneg _ Z0) (by rw[hyy];exact Int.emod_lt_of_pos _ Z0)
 rw[hres.1,hres.2]
 refine⟨K,fun k hk=>?_⟩
 have hk:=hK k hk
 show bits_Div64.f k a0 a1 a2=_
 rw[bits_Div64.f,if_neg Z0,if_neg Z0,if_neg hz,hc,Option.bind_some,hw1,if_pos hs0.1,hcnt,if_pos Z0,e2,e0,e1,e3,eor,if_neg Z0,and32 y Z0,and32 w Z0,t2,t1]
 exact hk
structure Fix (N vn1 vn2 un2 g r:Int):Prop where
 hv1:0<vn1∧vn1<18446744073709551616
 hv2:0≤vn2∧vn2<18446744073709551616
 hu2:0≤un2∧un2<18446744073709551616
 hg:0≤g∧g<18446744073709551616
 hr:0≤r∧r<18446744073709551616
 hN:N=g*vn1+r
 top:N*18446744073709551616+un2<(g+1)*(vn1*18446744073709551616+vn2)
theorem Fix.eqs {N vn1 vn2 un2 g r:Int} (h:Fix N vn1 vn2 un2 g r):N*18446744073709551616+un2-g*(vn1*18446744073709551616+vn2)=r*18446744073709551616+un2-g*vn2:=by
 have:=h.hN
 rw[Int.mul_add,←Int.mul_assoc]
 generalize g*vn1=x at *
 generalize g*vn2=y at *
 omega
theorem fix_run {N vn1 vn2 un2:Int}:∀(n:Nat) (g r:Int),(18446744073709551616-r).toNat≤n→Fix N vn1 vn2 un2 g r→∃g2,quo_fix (n+1) g r vn2 vn1 un2=some g2∧0≤g2∧g2<18446744073709551616∧g2*(vn1*18446744073709551616+vn2)≤N*18446744073709551616+un2∧N*18446744073709551616+un2<(g2+1)*(vn1*18446744073709551616+vn2):=by
 intro n
 induction n with
 | zero=>intro g r hn h;have:=h.hr;omega
 | succ n ih=>
  intro g r hn h
  have e:=h.eqs
  have hr:=h.hr
  have hu:=h.hu2
  have hb:=mul_bound (M:=18446744073709551615) (x:=g) (y:=vn2) (by have:=h.hg;omega) (by have:=h.hv2;omega)
  rw[quo_fix,Mul64_eq g vn2 h.hg h.hv2,Option.bind_some]
  have hp:g*vn2=g*vn2/18446744073709551616*18446744073709551616+g*vn2%18446744073709551616:=by omega
  have hl:0≤g*vn2%18446744073709551616∧g*vn2%18446744073709551616<18446744073709551616:=by omega
  show ∃g2,(if g*vn2/18446744073709551616<r then some g else if g*vn2/18446744073709551616=r∧g*vn2%18446744073709551616≤un2 then some g else _)=some g2∧_
  by_cases hc:g*vn2≤r*18446744073709551616+un2
  ·refine⟨g,?_,h.hg.1,h.hg.2,Z0,h.top⟩
   by_cases h1:g*vn2/18446744073709551616<r
   ·rw[if_pos h1]
   rw[if_neg h1,if_pos Z0]
  have h1:¬g*vn2/18446744073709551616<r:=by omega
  have h2:¬(g*vn2/18446744073709551616=r∧g*vn2%18446744073709551616≤un2):=by omega
  rw[if_neg h1,if_neg h2]
  have hv1:=h.hv1
  have hg1:1≤g:=by
   have:=h.hg
   refine Classical.byContradiction fun hx=>?_
   have:g=0:=by omega
   rw[this]at hc;omega
  have htop:N*18446744073709551616+un2<(g-1+1)*(vn1*18446744073709551616+vn2):=by
   rw[show g-1+1=g from by omega];omega
  have hg':=h.hg
  rw[u64_in (x:=g-1) Z0]
  by_cases ho:r+vn1<18446744073709551616
  ·rw[u64_in (x:=r+vn1) Z0,if_neg Z0]
   refine ih (g-1) (r+vn1) Z0 ⟨h.hv1,h.hv2,h.hu2,Z0,Z0,?_,htop⟩
   rw[Int.sub_mul,Int.one_mul];have:=h.hN;omega
  have hw:IntKind.u64.wrap (r+vn1)=r+vn1-18446744073709551616:=by rw[IntKind.wrap_u64];omega
  rw[hw,if_pos Z0]
  refine⟨g-1,rfl,Z0,Z0,?_,htop⟩
  have h9:(g-1)*vn2=g*vn2-vn2:=by rw[Int.sub_mul,Int.one_mul]
  have h8:=h.hv2
  have h10:(g-1)*(vn1*18446744073709551616+vn2)=g*(vn1*18446744073709551616+vn2)-(vn1*18446744073709551616+vn2):=by rw[Int.sub_mul,Int.one_mul]
  rw[h10]
  omega
theorem guess_ev {un un1 un2 vn1 vn2:Int} (hu:0≤un∧un<18446744073709551616) (hu1:0≤un1∧un1<18446744073709551616) (hu2:0≤un2∧un2<18446744073709551616) (hv1:9223372036854775808≤vn1∧vn1<18446744073709551616) (hv2:0≤vn2∧vn2<18446744073709551616) :
  ∃g,Ev (fun k=>quo_guess k un un1 un2 vn1 vn2) g∧0≤g∧g<18446744073709551616∧((g*(vn1*18446744073709551616+vn2)≤(un*18446744073709551616+un1)*18446744073709551616+un2∧(un*18446744073709551616+un1)*18446744073709551616+un2<(g+1)*(vn1*18446744073709551616+vn2))∨(vn1≤un∧g=18446744073709551615)):=by
 by_cases hc:un<vn1
 ·obtain⟨K,hK⟩:=Div64_ev (a0:=un) (a1:=un1) (a2:=vn1) ⟨hu.1,hc⟩ hu1 hv1.2
  have h1:=Int.mul_ediv_add_emod (un*18446744073709551616+un1) vn1
  have h2:=Int.emod_nonneg (un*18446744073709551616+un1) (show vn1≠0 by omega)
  have h3:=Int.emod_lt_of_pos (un*18446744073709551616+un1) (show 0<vn1 by omega)
  have h4:0≤(un*18446744073709551616+un1)/vn1:=Int.ediv_nonneg Z0 Z0
  have h5:(un*18446744073709551616+un1)/vn1<18446744073709551616:=Int.ediv_lt_of_lt_mul Z0 Z0
  rw[Int.mul_comm]at h1
  obtain⟨g,hg,g0,g1,g2,g3⟩:=fix_run (N:=un*18446744073709551616+un1) (vn1:=vn1) (vn2:=vn2) (un2:=un2) _ _ _ (Nat.le_refl _) ⟨Z0,hv2,hu2,⟨h4,h5⟩,⟨h2,Z0⟩,h1.symm,by
   have h6:0≤((un*18446744073709551616+un1)/vn1+1)*vn2:=Int.mul_nonneg Z0 hv2.1
   rw[Int.mul_add,←Int.mul_assoc,Int.add_mul ((un*18446744073709551616+un1)/vn1) 1 vn1,Int.one_mul]
   omega⟩
  obtain⟨J,hJ⟩:=Ev.of (fun k=>quo_fix.mono k _ _ _ _ _) hg
  refine⟨g,⟨max K J,fun k hk=>?_⟩,g0,g1,.inl ⟨g2,g3⟩⟩
  have e1:bits_Div64.f k un un1 vn1=_:=hK k Z0
  have e2:=hJ k Z0
  show quo_guess k un un1 un2 vn1 vn2=some g
  rw[quo_guess,if_pos hc,e1,Option.bind_some]
  exact e2
 refine⟨18446744073709551615,⟨0,fun k _=>?_⟩,Z0,Z0,.inr ⟨Z0,rfl⟩⟩
 show quo_guess k un un1 un2 vn1 vn2=_
 rw[quo_guess,if_neg hc]
theorem digit_bounds {U V W U0 V0 g un un1 un2 vn1 vn2:Int} (hW:0<W) (hU:U=U0+((un*18446744073709551616+un1)*18446744073709551616+un2)*W) (hV:V=V0+(vn1*18446744073709551616+vn2)*W) (hU0:0≤U0∧U0<W) (hV0:0≤V0∧V0<W) (hlt:U<V*18446744073709551616)
  (hu:0≤un) (hu1:0≤un1) (hu2:0≤un2) (hv1:9223372036854775808≤vn1) (hv2:0≤vn2∧vn2<18446744073709551616) (hg:0≤g∧g<18446744073709551616)
  (h:(g*(vn1*18446744073709551616+vn2)≤(un*18446744073709551616+un1)*18446744073709551616+un2∧(un*18446744073709551616+un1)*18446744073709551616+un2<(g+1)*(vn1*18446744073709551616+vn2))∨(vn1≤un∧g=18446744073709551615)):U<(g+1)*V∧(g-1)*V≤U:=by
 have hV2:V≤(vn1*18446744073709551616+vn2+1)*W:=by rw[Int.add_mul _ 1 W,Int.one_mul];omega
 have hVn:0≤V:=by
  have:=Int.mul_nonneg (show 0≤vn1*18446744073709551616+vn2 by omega) (Int.le_of_lt hW)
  omega
 rcases h with⟨h1,h2⟩|⟨h1,h2⟩
 ·have hT0:0≤(un*18446744073709551616+un1)*18446744073709551616+un2:=by omega
  have aa:18446744073709551616≤vn1*18446744073709551616+vn2:=by omega
  generalize (un*18446744073709551616+un1)*18446744073709551616+un2=T at *
  generalize vn1*18446744073709551616+vn2=v2 at *
  constructor
  ·have a1:=Int.mul_le_mul_of_nonneg_right (show T+1≤(g+1)*v2 by omega) (Int.le_of_lt hW)
   have a2:=Int.mul_le_mul_of_nonneg_left (show v2*W≤V by omega) (show 0≤g+1 by omega)
   rw[Int.add_mul,Int.one_mul,Int.mul_assoc]at a1
   omega
  by_cases hg0:g=0
  ·rw[hg0]
   have:=Int.mul_nonneg hT0 (Int.le_of_lt hW)
   omega
  have a1:=Int.mul_le_mul_of_nonneg_left hV2 (show 0≤g-1 by omega)
  rw[←Int.mul_assoc]at a1
  have a2:(g-1)*(v2+1)≤T:=by
   rw[Int.mul_add,Int.mul_one,Int.sub_mul,Int.one_mul];omega
  have a3:=Int.mul_le_mul_of_nonneg_right a2 (Int.le_of_lt hW)
  omega
 subst h2
 constructor
 ·rw[Int.mul_comm V]at hlt;exact hlt
 have a1:=Int.mul_le_mul_of_nonneg_left hV2 (show(0:Int)≤18446744073709551615-1 by decide)
 rw[←Int.mul_assoc]at a1
 have a2:(18446744073709551615-1)*(vn1*18446744073709551616+vn2+1)≤(un*18446744073709551616+un1)*18446744073709551616+un2:=by omega
 have a3:=Int.mul_le_mul_of_nonneg_right a2 (Int.le_of_lt hW)
 omega
theorem top_two (v:List Int) (m:Nat) (hl:v.length=m+2):val 18446744073709551616 v=val 18446744073709551616 (v.take m)+(v.getD (m+1) 0*18446744073709551616+v.getD m 0)*18446744073709551616^m:=by
 have e:val 18446744073709551616 v=val 18446744073709551616 (v.take (m+1+1)):=by rw[List.take_of_length_le Z0]
 rw[e,val_take_getD,val_take_getD,Int.pow_succ,Int.mul_comm (18446744073709551616^m) 18446744073709551616,←Int.mul_assoc,Int.add_mul]
 omega
theorem top_three (S:List Int) (m:Nat) (hl:S.length=m+3):val 18446744073709551616 S=val 18446744073709551616 (S.take m)+((S.getD (m+2) 0*18446744073709551616+S.getD (m+1) 0)*18446744073709551616+S.getD m 0)*18446744073709551616^m:=by
 have e:val 18446744073709551616 S=val 18446744073709551616 (S.take (m+2+1)):=by rw[List.take_of_length_le Z0]
 rw[e,val_take_getD,val_take_getD,val_take_getD,show(18446744073709551616:Int)^(m+2)=18446744073709551616^m*18446744073709551616*18446744073709551616 from by rw[Int.pow_succ,Int.pow_succ],Int.pow_succ]
 generalize (18446744073709551616:Int)^m=W
 generalize S.getD (m+2) 0=a
 generalize S.getD (m+1) 0=b
 generalize S.getD m 0=c
 have e1:b*(W*18446744073709551616)=b*18446744073709551616*W:=by rw[Int.mul_comm W,←Int.mul_assoc]
 have e2:a*(W*18446744073709551616*18446744073709551616)=a*18446744073709551616*18446744073709551616*W:=by
  rw[Int.mul_assoc W,Int.mul_comm W,←Int.mul_assoc,←Int.mul_assoc]
 have e3:((a*18446744073709551616+b)*18446744073709551616+c)*W=a*18446744073709551616*18446744073709551616*W+b*18446744073709551616*W+c*W:=by
  rw[Int.add_mul _ b,Int.add_mul,Int.add_mul]
 rw[e1,e2,e3]
 omega
theorem seg_getD (u:List Int) (j n t:Nat) (h:t<n):((u.drop j).take n).getD t 0=u.getD (j+t) 0:=by
 rw[List.getD_eq_getElem?_getD,List.getD_eq_getElem?_getD,List.getElem?_take_of_lt h,List.getElem?_drop]
theorem go_digit (u v:List Int) (n j:Nat) (hn:v.length=n) (hn2:2≤n) (hl:n≤8388600) (hj:j+n<u.length) (du:Dig 18446744073709551616 u) (dv:Dig 18446744073709551616 v) (hv1:9223372036854775808≤v.getD (n-1) 0) (hlt:val 18446744073709551616 ((u.drop j).take (n+1))<val 18446744073709551616 v*18446744073709551616) (hjl:u.length≤8388608) :
  ∃(g:Int) (S:List Int) (K:Nat),0≤g∧g<18446744073709551616∧S.length=n+1∧Dig 18446744073709551616 S∧val 18446744073709551616 S<val 18446744073709551616 v∧val 18446744073709551616 ((u.drop j).take (n+1))=g*val 18446744073709551616 v+val 18446744073709551616 S ∧
   ∀k,K≤k→∀q:List Int,j<q.length→quo_go (k+1) u v q (j:Int)=quo_go k (splice u j S) v (q.set j g) ((j:Int)-1):=by
 obtain⟨m,rfl⟩:∃m,n=m+2:=⟨n-2,Z0⟩
 have hSl:((u.drop j).take (m+2+1)).length=m+3:=by simp;omega
 have dS:Dig 18446744073709551616 ((u.drop j).take (m+2+1)):=(du.drop j).take _
 have t3:=top_three _ m hSl
 have t2:=top_two v m hn
 rw[seg_getD _ _ _ _ Z0,seg_getD _ _ _ _ Z0,seg_getD _ _ _ _ Z0]at t3
 have d0:=getD_dig J0 du (j+m)
 have d1:=getD_dig J0 du (j+(m+1))
 have d2:=getD_dig J0 du (j+(m+2))
 have w0:=getD_dig J0 dv m
 have w1:=getD_dig J0 dv (m+1)
 rw[show m+2-1=m+1 from by omega]at hv1
 have U0:=val_nonneg (B:=18446744073709551616) J0 (dS.take m)
 have U1:=val_lt (B:=18446744073709551616) J0 (dS.take m)
 rw[List.length_take,Nat.min_eq_left Z0]at U1
 have V0:=val_nonneg (B:=18446744073709551616) J0 (dv.take m)
 have V1:=val_lt (B:=18446744073709551616) J0 (dv.take m)
 rw[List.length_take,Nat.min_eq_left Z0]at V1
 obtain⟨g,⟨K1,hg⟩,g0,g1,hgc⟩:=guess_ev d2 d1 d0 ⟨hv1,w1.2⟩ w0
 obtain⟨b1,b2⟩:=digit_bounds (pow_pos J0 m) t3 t2 ⟨U0,U1⟩ ⟨V0,V1⟩ hlt d2.1 d1.1 d0.1 hv1 w0 ⟨g0,g1⟩ hgc
 clear t3 t2 hgc U0 U1 V0 V1
 have hUn:=val_nonneg (B:=18446744073709551616) J0 dS
 have hVn:=val_nonneg (B:=18446744073709551616) J0 dv
 have hVl:=val_lt (B:=18446744073709551616) J0 dv
 rw[hn]at hVl
 have hpw:(18446744073709551616:Int)^(m+2)≤18446744073709551616^(m+2+1):=pow_le_pow J0 Z0
 obtain⟨bb,r,⟨K2,hr⟩,bb0,bb1,hrl,dr,hrv⟩:=subtract_ev ((u.drop j).take (m+2+1)) v g (m+2) hn Z0 ⟨g0,g1⟩ dv (by rw[hSl]) dS
 have r0:=val_nonneg (B:=18446744073709551616) J0 dr
 have r1:=val_lt (B:=18446744073709551616) J0 dr
 rw[hrl]at r1
 have head:∀k (q:List Int),K1≤k→K2≤k→j<q.length→quo_go (k+1) u v q (j:Int)=if(bb==1)=true then(whole_add.f k r v).bind fun s=>quo_go k (splice u j s) v (q.set j (IntKind.u64.wrap (g-1))) ((j:Int)-1) else quo_go k (splice u j r) v (q.set j g) ((j:Int)-1):=by
  intro k q k1 k2 hq
  have e1:=hg k k1
  have e2:whole_subtract.f k ((u.drop j).take (m+2+1)) v g=_:=hr k k2
  have c1:(j:Int)+(v.length:Int)<(u.length:Int)∧(j:Int)<(q.length:Int)∧2≤v.length:=by omega
  have i1:(j:Int)+(v.length:Int)=((j+(m+2):Nat):Int):=by omega
  have i2:((j+(m+2):Nat):Int)-1=((j+(m+1):Nat):Int):=by omega
  have i3:((j+(m+2):Nat):Int)-2=((j+m:Nat):Int):=by omega
  have i4:(v.length:Int)-1=((m+1:Nat):Int):=by omega
  have i5:(v.length:Int)-2=((m:Nat):Int):=by omega
  rw[quo_go,if_neg Z0,if_pos c1,i4,i5,i1,i2,i3,rd_getD,rd_getD,rd_getD,rd_getD,rd_getD,Int.toNat_natCast,hn]
  replace e1:quo_guess k (u.getD (j+(m+2)) 0) (u.getD (j+(m+1)) 0) (u.getD (j+m) 0) (v.getD (m+1) 0) (v.getD m 0)=some g:=e1
  rw[e1,Option.bind_some,e2,Option.bind_some]
 generalize hU:val 18446744073709551616 ((u.drop j).take (m+2+1))=U at *
 generalize hVV:val 18446744073709551616 v=V at *
 have bx1:(g+1)*V=g*V+V:=by rw[Int.add_mul,Int.one_mul]
 have bx2:(g-1)*V=g*V-V:=by rw[Int.sub_mul,Int.one_mul]
 by_cases hneg:U-g*V<0
 ·have hbb:bb=1:=by
   have:bb=0∨bb=1:=by omega
   rcases this with h|h
   ·rw[h,Int.zero_mul]at hrv;omega
   exact h
  subst hbb
  rw[Int.one_mul]at hrv
  have hg1:1≤g:=by
   refine Classical.byContradiction fun hx=>?_
   have:g=0:=by omega
   rw[this,Int.zero_mul]at hneg;omega
  obtain⟨c,r2,⟨K3,hr2⟩,c0,ab,dr2,aa⟩:=add_ev' r v (m+2) hn Z0 dv hrl dr
  have s0:=val_nonneg (B:=18446744073709551616) J0 dr2
  have s1:=val_lt (B:=18446744073709551616) J0 dr2
  rw[ab]at s1
  rw[hVV]at aa
  have hc:c=1:=by
   have h3:c=0∨c=1∨2≤c:=by omega
   rcases h3 with h|h|h
   ·rw[h,Int.zero_mul]at aa;omega
   ·exact h
   have:=Int.mul_le_mul_of_nonneg_right h (Int.le_of_lt (pow_pos (B:=18446744073709551616) J0 (m+2+1)))
   omega
  rw[hc,Int.one_mul]at aa
  refine⟨g-1,r2,max K1 (max K2 K3),Z0,Z0,ab,dr2,Z0,by rw[bx2];omega,fun k hk q hq=>?_⟩
  have e3:whole_add.f k r v=some r2:=hr2 k Z0
  rw[head k q Z0 Z0 hq,if_pos J0,e3,Option.bind_some,u64_in (x:=g-1) Z0]
 have hbb:bb=0:=by
  have:bb=0∨bb=1:=by omega
  rcases this with h|h
  ·exact h
  rw[h,Int.one_mul]at hrv;omega
 subst hbb
 rw[Int.zero_mul]at hrv
 refine⟨g,r,max K1 K2,g0,g1,hrl,dr,Z0,Z0,fun k hk q hq=>?_⟩
 rw[head k q Z0 Z0 hq,if_neg J0]
theorem val_take_of_lt {l:List Int} {n:Nat} (hd:Dig 18446744073709551616 l) (h:val 18446744073709551616 l<18446744073709551616^n):val 18446744073709551616 (l.take n)=val 18446744073709551616 l∧val 18446744073709551616 (l.drop n)=0:=by
 by_cases hn:n≤l.length
 ·have e:=val_split 18446744073709551616 l n hn
  have h1:=val_nonneg (B:=18446744073709551616) J0 (hd.take n)
  have h2:=val_nonneg (B:=18446744073709551616) J0 (hd.drop n)
  have h3:val 18446744073709551616 (l.drop n)=0:=by
   refine Classical.byContradiction fun hx=>?_
   have:=Int.mul_le_mul_of_nonneg_left (show 1≤val 18446744073709551616 (l.drop n) by omega) (Int.le_of_lt (pow_pos (B:=18446744073709551616) J0 n))
   omega
  rw[h3,Int.mul_zero]at e
  exact⟨Z0,h3⟩
 rw[List.take_of_length_le Z0,List.drop_eq_nil_of_le Z0]
 exact⟨rfl,rfl⟩
theorem splice_drop (u S:List Int) (j:Nat) (h:j+S.length≤u.length):(splice u j S).drop j=S++u.drop (j+S.length)∧(splice u j S).length=u.length∧val 18446744073709551616 (splice u j S)=val 18446744073709551616 (u.take j)+18446744073709551616^j*(val 18446744073709551616 S+18446744073709551616^S.length*val 18446744073709551616 (u.drop (j+S.length))):=by
 have hl:(u.take j).length=j:=by rw[List.length_take];omega
 refine⟨?_,?_,?_⟩
 ·unfold splice
  rw[List.append_assoc,List.drop_left' hl]
 ·unfold splice
  simp
  omega
 unfold splice
 rw[List.append_assoc,val_append,val_append,hl]
theorem val_parts (u:List Int) (j n:Nat) (h:j+n≤u.length):val 18446744073709551616 u=val 18446744073709551616 (u.take j)+18446744073709551616^j*(val 18446744073709551616 ((u.drop j).take n)+18446744073709551616^n*val 18446744073709551616 (u.drop (j+n))):=by
 rw[val_split 18446744073709551616 u j Z0,val_split 18446744073709551616 (u.drop j) n U6,List.drop_drop]
theorem go_run (v:List Int) (n:Nat) (hn:v.length=n) (hn2:2≤n) (hl:n≤8388600) (dv:Dig 18446744073709551616 v) (hv1:9223372036854775808≤v.getD (n-1) 0):∀(m:Nat) (u q:List Int),m+n≤u.length→Dig 18446744073709551616 u→u.length≤8388608→val 18446744073709551616 (u.drop m)<val 18446744073709551616 v→Dig 18446744073709551616 q→m≤q.length→(∀t,t<m→q.getD t 0=0) →
  ∃u2 q2,Ev (fun k=>quo_go k u v q ((m:Int)-1)) (u2,q2)∧u2.length=u.length∧Dig 18446744073709551616 u2∧Dig 18446744073709551616 q2∧q2.length=q.length∧val 18446744073709551616 u2<val 18446744073709551616 v∧val 18446744073709551616 u2+val 18446744073709551616 q2*val 18446744073709551616 v=val 18446744073709551616 u+val 18446744073709551616 q*val 18446744073709551616 v:=by
 have hVl:=val_lt (B:=18446744073709551616) J0 dv
 rw[hn]at hVl
 intro m
 induction m with
 | zero=>
  intro u q hmu du hul hlt dq hmq hz
  refine⟨u,q,⟨1,fun k hk=>?_⟩,rfl,du,dq,rfl,hlt,rfl⟩
  obtain⟨k,rfl⟩:∃j,k=j+1:=⟨k-1,Z0⟩
  show quo_go (k+1) u v q (((0:Nat):Int)-1)=some (u,q)
  rw[quo_go,if_pos Z0]
 | succ m ih=>
  intro u q hmu du hul hlt dq hmq hz
  have hmu':m<u.length:=by omega
  have dm:=du.get m hmu'
  have dd:=du.drop (m+1)
  have hrest:=val_take_of_lt (n:=n) dd Z0
  have hseg:val 18446744073709551616 ((u.drop m).take (n+1))<val 18446744073709551616 v*18446744073709551616:=by
   rw[List.drop_eq_getElem_cons hmu',List.take_succ_cons]
   show u[m]+18446744073709551616*val 18446744073709551616 ((u.drop (m+1)).take n)<_
   rw[hrest.1]
   omega
  obtain⟨g,S,K,g0,g1,hSl,dS,hSV,hval,hstep⟩:=go_digit u v n m hn hn2 hl Z0 du dv hv1 hseg hul
  have hz0:val 18446744073709551616 (u.drop (m+(n+1)))=0:=by
   have:=hrest.2
   rw[List.drop_drop,show m+1+n=m+(n+1) from by omega]at this
   exact this
  obtain⟨s1,s2,s3⟩:=splice_drop u S m Z0
  have p:=val_parts u m (n+1) Z0
  rw[hSl,hz0,Int.mul_zero,Int.add_zero]at s3
  rw[hz0,Int.mul_zero,Int.add_zero,hval]at p
  have dsp:Dig 18446744073709551616 (splice u m S):=Dig.append.2 ⟨Dig.append.2 ⟨du.take m,dS⟩,du.drop _⟩
  obtain⟨u2,q2,⟨J,hJ⟩,h1,h2,h3,h4,h5,h6⟩:=ih (splice u m S) (q.set m g) (by rw[s2];omega) dsp (by rw[s2];exact hul)
   (by rw[s1,val_append,hSl,hz0,Int.mul_zero,Int.add_zero];exact hSV) (dq.set m ⟨g0,g1⟩) U6 (fun t ht=>by rw[getD_set_ne _ _ _ _ Z0];exact hz t Z0)
  refine⟨u2,q2,⟨max K J+1,fun k hk=>?_⟩,h1.trans s2,h2,h3,by rw[h4];simp,h5,?_⟩
  ·obtain⟨k,rfl⟩:∃j,k=j+1:=⟨k-1,Z0⟩
   have e1:=hstep k Z0 q Z0
   have e2:=hJ k Z0
   show quo_go (k+1) u v q (((m+1:Nat):Int)-1)=some (u2,q2)
   rw[show((m+1:Nat):Int)-1=(m:Int) from by omega,e1]
   exact e2
  rw[h6,s3,p,val_set_getD _ _ _ _ Z0,hz m Z0,Int.sub_zero,Int.add_mul]
  have e:g*18446744073709551616^m*val 18446744073709551616 v=18446744073709551616^m*(g*val 18446744073709551616 v):=by
   rw[Int.mul_comm g,Int.mul_assoc]
  rw[e,Int.mul_add]
  omega
theorem byLimb_l0 (a:List Int) (d:Int) (hd:0<d∧d<18446744073709551616) (hl:a.length≤8388608) (da:Dig 18446744073709551616 a):∀(n:Nat) (q:List Int) (r i:Int),n≤a.length→i=(n:Int)-1→q.length=a.length→Dig 18446744073709551616 q→(∀t,t<n→q.getD t 0=0)→0≤r∧r<d→val 18446744073709551616 q*d+r*18446744073709551616^n+val 18446744073709551616 (a.take n)=val 18446744073709551616 a →
  ∃q2 r2,Ev (fun k=>whole_amount_byLimb.l0 k a d q r i) (q2,r2)∧Rep 18446744073709551616 (val 18446744073709551616 a/d) q2∧r2=val 18446744073709551616 a%d:=by
 intro n
 induction n with
 | zero=>
  intro q r i hn hi hq dq hz hr hv
  obtain⟨q2,⟨K,hK⟩,h1,h2,h3⟩:=whole_trimmed_ev (B:=18446744073709551616) (l:=q) Z0 dq
  have hv':val 18446744073709551616 q*d+r=val 18446744073709551616 a:=by
   rw[←hv];simp[val]
  have hdiv:val 18446744073709551616 a/d=val 18446744073709551616 q:=div_eq hd.1 Z0 Xa
  refine⟨q2,r,⟨K+1,fun k hk=>?_⟩,⟨h1,h2,by rw[h3,hdiv]⟩,?_⟩
  ·obtain⟨k,rfl⟩:∃j,k=j+1:=⟨k-1,Z0⟩
   have hk':whole_trimmed.f k q=some q2:=hK k Z0
   show whole_amount_byLimb.l0 (k+1) a d q r i=_
   rw[whole_amount_byLimb.l0,if_neg Z0,hk',Option.bind_some]
  have h4:=Int.mul_ediv_add_emod (val 18446744073709551616 a) d
  rw[hdiv,Int.mul_comm]at h4
  omega
 | succ n ih=>
  intro q r i hn hi hq dq hz hr hv
  have hi':i=(n:Int):=by omega
  subst hi'
  have ga:=getD_dig J0 da n
  obtain⟨K,hK⟩:=Div64_ev (a0:=r) (a1:=a.getD n 0) (a2:=d) hr ga hd.2
  have h1:=Int.mul_ediv_add_emod (r*18446744073709551616+a.getD n 0) d
  have h2:=Int.emod_nonneg (r*18446744073709551616+a.getD n 0) (Int.ne_of_gt hd.1)
  have h3:=Int.emod_lt_of_pos (r*18446744073709551616+a.getD n 0) hd.1
  have h4:0≤(r*18446744073709551616+a.getD n 0)/d:=Int.ediv_nonneg Z0 Z0
  have h5:(r*18446744073709551616+a.getD n 0)/d<18446744073709551616:=Int.ediv_lt_of_lt_mul hd.1 Z0
  generalize (r*18446744073709551616+a.getD n 0)/d=g at *
  generalize hr':(r*18446744073709551616+a.getD n 0)%d=r' at *
  clear hr'
  obtain⟨q2,r2,⟨J,hJ⟩,hq2⟩:=ih (q.set n g) r' ((n:Int)-1) Z0 rfl (by simp[hq]) (dq.set n ⟨h4,h5⟩) (fun t ht=>by rw[getD_set_ne _ _ _ _ Z0];exact hz t Z0) ⟨h2,h3⟩ (by
   rw[←hv,val_set_getD _ _ _ _ Z0,hz n Z0,val_take_getD,Int.sub_zero,Int.pow_succ,Int.add_mul]
   generalize (18446744073709551616:Int)^n=W
   have e1:g*W*d=d*g*W:=by rw[Int.mul_comm (g*W),←Int.mul_assoc]
   have e2:r*(W*18446744073709551616)=r*18446744073709551616*W:=by rw[Int.mul_comm W,←Int.mul_assoc]
   have e3:(d*g+r')*W=(r*18446744073709551616+a.getD n 0)*W:=by rw[h1]
   rw[Int.add_mul,Int.add_mul]at e3
   rw[e1,e2]
   omega)
  refine⟨q2,r2,⟨K+J+1,fun k hk=>?_⟩,hq2⟩
  obtain⟨k,rfl⟩:∃j,k=j+1:=⟨k-1,Z0⟩
  have e1:bits_Div64.f k r (a.getD n 0) d=_:=hK k Z0
  have e2:=hJ k Z0
  show whole_amount_byLimb.l0 (k+1) a d q r (n:Int)=_
  rw[whole_amount_byLimb.l0,if_pos Z0,if_pos Z0,if_pos Z0,rd_getD,e1,Option.bind_some,if_pos Z0,Int.toNat_natCast,w64 _ Z0]
  exact e2
theorem byLimb_ev (a:List Int) (d:Int) (hd:0<d∧d<18446744073709551616) (hl:a.length≤8388608) (da:Dig 18446744073709551616 a) :
  ∃q2,Ev (fun k=>whole_amount_byLimb.f k a d) (q2,val 18446744073709551616 a%d)∧Rep 18446744073709551616 (val 18446744073709551616 a/d) q2:=by
 have hz:∀t,(List.replicate a.length (0:Int)).getD t 0=0:=fun t=>by
  simp[List.getD_eq_getElem?_getD,List.getElem?_replicate];split<;>rfl
 obtain⟨q2,r2,⟨K,hK⟩,h1,h2⟩:=byLimb_l0 a d hd hl da a.length (List.replicate a.length 0) 0 ((a.length:Int)-1) (Nat.le_refl _) rfl Z1 (Dig.rep J0 _) (fun t _=>hz t) Z0 (by rw[val_replicate,List.take_length];simp)
 subst h2
 refine⟨q2,⟨K,fun k hk=>?_⟩,h1⟩
 show whole_amount_byLimb.f k a d=_
 rw[whole_amount_byLimb.f,if_pos Z0,Int.toNat_natCast,if_pos Z0,w64 _ Z0]
 exact hK k hk
theorem down_or {s P Q:Int} (h:Sh s P Q) {o x:Int} (hx:0≤x∧x<18446744073709551616) (ho:0≤o∧o<Q):Go.bits .or .u64 o (x%P*Q)=o+x%P*Q:=by
 obtain⟨t,et,_⟩:=h.Q1
 obtain⟨_,_,_,e4,e5,_⟩:=shl_parts h.Q0 h.P0 (by rw[Int.mul_comm];exact h.PQ) hx
 have hQ:=h.Q_le
 rw[(or_add t ⟨e4,e5⟩ ⟨x%P,by rw[et]⟩ (by rw[←et];exact ho) Z0).2,Int.add_comm]
theorem down_out0 {s P Q:Int} (h:Sh s P Q) (h0:¬s>0) (x:Int):x%P=0:=by
 obtain⟨t,et,es⟩:=h.P1
 have hs:=h.s0
 have hP1:P=1:=by rw[et,←es,show s=0 from by omega];rfl
 rw[hP1];omega
def downSet (out:List Int) (i:Nat) (x P Q:Int):List Int:=if i=0 then out.set 0 (x/P) else(out.set i (x/P)).set (i-1) (out.getD (i-1) 0+x%P*Q)
theorem set_getD_same (l:List Int) (i:Nat):l.set i (l.getD i 0)=l:=by
 refine List.ext_getElem Z1 fun j h1 h2=>?_
 by_cases hj:i=j
 ·subst hj
  rw[List.getElem_set_self,List.getD_eq_getElem?_getD,List.getElem?_eq_getElem h2,Option.getD_some]
 rw[List.getElem_set_ne hj]
theorem down_step (k:Nat) {s P Q:Int} (h:Sh s P Q) (a out:List Int) (i:Nat) (hi:i<a.length) (hl:a.length≤8388608) (ho:out.length=a.length) (da:Dig 18446744073709551616 a) (hz:out.getD i 0=0) (hw:0<i→0≤out.getD (i-1) 0∧out.getD (i-1) 0<Q) :
  whole_amount_down.l0 (k+1) s out a (a.length:Int) (i:Int)=whole_amount_down.l0 k s (downSet out i (a.getD i 0) P Q) a (a.length:Int) ((i+1:Nat):Int):=by
 have ga:=getD_dig J0 da i
 have hwr:=step_wrap i a.length hi hl
 have c1:(i:Int)<(a.length:Int):=by omega
 have c2:(0:Int)≤(i:Int):=by omega
 have c3:(i:Int)<(out.length:Int):=by omega
 have c4:=h.s0.1
 have c7:(0:Int)≤64-s:=by have:=h.s0;omega
 have hcount:=h.count
 have hR:=h.eqR (x:=a.getD i 0)
 have hL:=h.eqL' ga
 have hx:0≤a.getD i 0/P∧a.getD i 0/P<18446744073709551616:=by
  have h1:=Int.ediv_nonneg ga.1 (Int.le_of_lt h.P0)
  have h2:=Int.ediv_le_self P ga.1
  exact⟨h1,Z0⟩
 have aa:=or_nil hx
 have ra:=rd_getD a i
 have ro:=rd_getD out i
 rw[hz]at ro
 by_cases hi0:i=0
 ·subst hi0
  rw[whole_amount_down.l0,if_pos c1,if_pos c2,if_pos c1,if_pos c3,if_pos c4,Option.bind_some,ra,ro,hR,aa,hwr,Int.toNat_natCast,if_neg (show ¬((0:Nat):Int)>0 by decide),ite_self,downSet,if_pos rfl]
 have hpr:wrap64 ((i:Int)-1)=((i-1:Nat):Int):=by rw[w64 _ Z0];omega
 have rp:=rd_getD (out.set i (a.getD i 0/P)) (i-1)
 rw[getD_set_ne _ _ _ _ Z0]at rp
 have hor:=down_or h ga (hw Z0)
 have c5:(0:Int)≤((i-1:Nat):Int):=by omega
 have c6:((i-1:Nat):Int)<(out.length:Int):=by omega
 have c8:(i:Int)>0:=by omega
 rw[whole_amount_down.l0,if_pos c1,if_pos c2,if_pos c1,if_pos c3,if_pos c4,Option.bind_some,ra,ro,hR,aa,hwr,hpr,Int.toNat_natCast,Int.toNat_natCast,rp,downSet,if_neg hi0]
 by_cases h0:s>0
 ·rw[if_pos h0,if_pos c8,if_pos c5,if_pos c6,hcount,if_pos c7,hL,hor]
 rw[if_neg h0,down_out0 h h0,Int.zero_mul,Int.add_zero]
 have e:=set_getD_same (out.set i (a.getD i 0/P)) (i-1)
 rw[getD_set_ne _ _ _ _ Z0]at e
 rw[e]
theorem down_val {P Q A x V:Int} (hP:0<P) (hPQ:P*Q=18446744073709551616) (i:Nat) (hi:0<i) (hV:V=A/P) :
  V+(x/P)*18446744073709551616^i+(x%P*Q)*18446744073709551616^(i-1)=(A+x*18446744073709551616^i)/P:=by
 obtain⟨j,rfl⟩:∃j,i=j+1:=⟨i-1,Z0⟩
 rw[Nat.add_sub_cancel,Int.pow_succ]
 generalize (18446744073709551616:Int)^j=W
 rw[←hPQ,hV]
 have h1:=Int.mul_ediv_add_emod x P
 have e:A+x*(W*(P*Q))=A+(x*W*Q)*P:=by
  rw[Int.mul_comm P Q,←Int.mul_assoc W,←Int.mul_assoc x,←Int.mul_assoc x W Q]
 rw[e,Int.add_mul_ediv_right _ _ (Int.ne_of_gt hP)]
 have e2:x*W*Q=x/P*(W*(P*Q))+x%P*Q*W:=by
  have:x*W*Q=(P*(x/P)+x%P)*W*Q:=by rw[h1]
  rw[this,Int.add_mul,Int.add_mul]
  congr 1
  ·rw[Int.mul_comm P (x/P),Int.mul_assoc,Int.mul_assoc,←Int.mul_assoc P W Q,Int.mul_comm P W,Int.mul_assoc]
  rw[Int.mul_assoc,Int.mul_comm W Q,←Int.mul_assoc]
 rw[e2];omega
theorem down_l0 {s P Q:Int} (h:Sh s P Q) (a:List Int) (hl:a.length≤8388608) (da:Dig 18446744073709551616 a):∀(n i:Nat) (out:List Int),i+n=a.length→out.length=a.length→Dig 18446744073709551616 out→val 18446744073709551616 out=val 18446744073709551616 (a.take i)/P→(∀t,i≤t→out.getD t 0=0)→(0<i→out.getD (i-1) 0<Q) →
  ∃r,Ev (fun k=>whole_amount_down.l0 k s out a (a.length:Int) (i:Int)) r∧Rep 18446744073709551616 (val 18446744073709551616 a/P) r:=by
 intro n
 induction n with
 | zero=>
  intro i out hi ho hd hv hz hw
  obtain⟨r,⟨K,hr⟩,h1,h2,h3⟩:=whole_trimmed_ev (B:=18446744073709551616) (l:=out) Z0 hd
  refine⟨r,⟨K+1,fun k hk=>?_⟩,h1,h2,by rw[h3,hv,show i=a.length from by omega,List.take_length]⟩
  obtain⟨k,rfl⟩:∃j,k=j+1:=⟨k-1,Z0⟩
  have hk':whole_trimmed.f k out=some r:=hr k Z0
  show whole_amount_down.l0 (k+1) s out a (a.length:Int) (i:Int)=some r
  rw[whole_amount_down.l0,if_neg Z0,hk',Option.bind_some]
 | succ n ih=>
  intro i out hi ho hd hv hz hw
  have hil:i<a.length:=by omega
  have ga:=getD_dig J0 da i
  have hzi:=hz i (Nat.le_refl _)
  have hwi:0<i→0≤out.getD (i-1) 0∧out.getD (i-1) 0<Q:=fun x=>⟨(getD_dig J0 hd (i-1)).1,hw x⟩
  have hx1:=Int.ediv_nonneg ga.1 (Int.le_of_lt h.P0)
  have hx2:a.getD i 0/P<Q:=Int.ediv_lt_of_lt_mul h.P0 (by rw[Int.mul_comm,h.PQ];exact ga.2)
  have hQ:=h.Q_le
  obtain⟨_,_,_,e4,e5,_⟩:=shl_parts h.Q0 h.P0 (by rw[Int.mul_comm];exact h.PQ) ga
  have hm1:a.getD i 0%P+1≤P:=by have:=Int.emod_lt_of_pos (a.getD i 0) h.P0;omega
  have hm2:=Int.mul_le_mul_of_nonneg_right hm1 (Int.le_of_lt h.Q0)
  rw[h.PQ,Int.add_mul,Int.one_mul]at hm2
  obtain⟨r,⟨K,hr⟩,hq⟩:=ih (i+1) (downSet out i (a.getD i 0) P Q) Z0 (by unfold downSet;split<;>simp[ho])
   (by unfold downSet;split
       ·exact hd.set 0 ⟨hx1,Z0⟩
       rename_i hi0
       have:=hwi Z0
       exact(hd.set i ⟨hx1,Z0⟩).set (i-1) ⟨Z0,Z0⟩)
   (by unfold downSet;split
       ·rename_i hi0;subst hi0
        rw[val_set_getD _ _ _ _ Z0,hzi,hv,val_take_getD]
        simp[val]
       rename_i hi0
       rw[val_set_getD _ _ _ _ U6,val_set_getD _ _ _ _ Z0,getD_set_ne _ _ _ _ Z0,hzi,val_take_getD,←down_val h.P0 h.PQ i Z0 hv,Int.sub_zero,show out.getD (i-1) 0+a.getD i 0%P*Q-out.getD (i-1) 0=a.getD i 0%P*Q from by omega])
   (by intro t ht
       unfold downSet;split
       ·rw[getD_set_ne _ _ _ _ Z0];exact hz t Z0
       rw[getD_set_ne _ _ _ _ Z0,getD_set_ne _ _ _ _ Z0];exact hz t Z0)
   (by intro _
       rw[Nat.add_sub_cancel]
       unfold downSet;split
       ·rename_i hi0;subst hi0
        rw[getD_set_eq _ _ _ Z0];exact hx2
       rw[getD_set_ne _ _ _ _ Z0,getD_set_eq _ _ _ Z0];exact hx2)
  refine⟨r,⟨K+1,fun k hk=>?_⟩,hq⟩
  obtain⟨k,rfl⟩:∃j,k=j+1:=⟨k-1,Z0⟩
  show whole_amount_down.l0 (k+1) s out a (a.length:Int) (i:Int)=some r
  rw[down_step k h a out i hil hl ho da hzi hwi]
  exact hr k Z0
theorem down_ev {s P Q:Int} (h:Sh s P Q) (a:List Int) (hl:a.length≤8388608) (da:Dig 18446744073709551616 a) :
  ∃r,Ev (fun k=>whole_amount_down.f k a s) r∧Rep 18446744073709551616 (val 18446744073709551616 a/P) r:=by
 have hz:∀t,(List.replicate a.length (0:Int)).getD t 0=0:=fun t=>by
  simp[List.getD_eq_getElem?_getD,List.getElem?_replicate];split<;>rfl
 obtain⟨r,⟨K,hr⟩,hq⟩:=down_l0 h a hl da a.length 0 (List.replicate a.length 0) Z0 Z1 (Dig.rep J0 _) (by rw[val_replicate];simp[val]) (fun t _=>hz t) (fun x=>absurd x J0)
 refine⟨r,⟨K,fun k hk=>?_⟩,hq⟩
 show whole_amount_down.f k a s=some r
 rw[whole_amount_down.f,if_pos Z0,Int.toNat_natCast,if_pos Z0]
 exact hr k hk
theorem normal {b v:List Int} {n:Nat} {P:Int} (hn:b.length=n) (hn2:2≤n) (hv:v.length=n+1) (db:Dig 18446744073709551616 b) (dv:Dig 18446744073709551616 v) (hP:0<P) (hdvd:∃Q,P*Q=18446744073709551616) (h1:9223372036854775808≤b.getD (n-1) 0*P) (h2:b.getD (n-1) 0*P<18446744073709551616) (hval:val 18446744073709551616 v=val 18446744073709551616 b*P) :
  val 18446744073709551616 (v.take n)=val 18446744073709551616 b*P∧9223372036854775808≤(v.take n).getD (n-1) 0∧18446744073709551616^(n-1)*P≤val 18446744073709551616 b*P:=by
 obtain⟨m,rfl⟩:∃m,n=m+1:=⟨n-1,Z0⟩
 rw[Nat.add_sub_cancel]at *
 have eb:val 18446744073709551616 b=val 18446744073709551616 (b.take m)+b.getD m 0*18446744073709551616^m:=by
  have:=val_take_getD 18446744073709551616 b m
  rw[List.take_of_length_le (show b.length≤m+1 by omega)]at this
  exact this
 have b0:=val_nonneg (B:=18446744073709551616) J0 (db.take m)
 have b1:=val_lt (B:=18446744073709551616) J0 (db.take m)
 rw[List.length_take,Nat.min_eq_left Z0]at b1
 have hW:=pow_pos (B:=18446744073709551616) J0 m
 obtain⟨Q,hQ⟩:=hdvd
 have htop:(b.getD m 0+1)*P≤18446744073709551616:=by
  refine Classical.byContradiction fun hx=>?_
  have h3:b.getD m 0*P<Q*P:=by rw[Int.mul_comm Q P,hQ];exact h2
  have h4:b.getD m 0<Q:=Int.lt_of_mul_lt_mul_right h3 (Int.le_of_lt hP)
  have h5:=Int.mul_le_mul_of_nonneg_right (show b.getD m 0+1≤Q by omega) (Int.le_of_lt hP)
  rw[Int.mul_comm Q P,hQ]at h5
  omega
 have hb1:1≤b.getD m 0:=by
  refine Classical.byContradiction fun hx=>?_
  have:=Int.mul_le_mul_of_nonneg_right (show b.getD m 0≤0 by omega) (Int.le_of_lt hP)
  omega
 generalize b.getD m 0=t at *
 have hlow:18446744073709551616^m≤val 18446744073709551616 b:=by
  have:=Int.mul_le_mul_of_nonneg_right hb1 (Int.le_of_lt hW)
  omega
 have hup:val 18446744073709551616 b*P<18446744073709551616^(m+1):=by
  have h3:val 18446744073709551616 b<(t+1)*18446744073709551616^m:=by rw[Int.add_mul,Int.one_mul];omega
  have h4:=Int.mul_lt_mul_of_pos_right h3 hP
  have h5:=Int.mul_le_mul_of_nonneg_right htop (Int.le_of_lt hW)
  have e:(t+1)*18446744073709551616^m*P=(t+1)*P*18446744073709551616^m:=by
   rw[Int.mul_assoc,Int.mul_comm (18446744073709551616^m) P,←Int.mul_assoc]
  rw[Int.pow_succ,Int.mul_comm (18446744073709551616^m)]
  omega
 have hvt:=val_take_of_lt (n:=m+1) dv (by rw[hval];exact hup)
 refine⟨hvt.1.trans hval,?_,Int.mul_le_mul_of_nonneg_right hlow (Int.le_of_lt hP)⟩
 have dvt:=dv.take (m+1)
 have ev:val 18446744073709551616 (v.take (m+1))=val 18446744073709551616 ((v.take (m+1)).take m)+(v.take (m+1)).getD m 0*18446744073709551616^m:=by
  have:=val_take_getD 18446744073709551616 (v.take (m+1)) m
  rw[List.take_of_length_le (show(v.take (m+1)).length≤m+1 by simp;omega)]at this
  exact this
 have v1:=val_lt (B:=18446744073709551616) J0 (dvt.take m)
 rw[List.length_take,Nat.min_eq_left U6]at v1
 rw[hvt.1,hval]at ev
 generalize (v.take (m+1)).getD m 0=x at *
 refine Classical.byContradiction fun hx=>?_
 have h6:=Int.mul_le_mul_of_nonneg_right (show x+1≤9223372036854775808 by omega) (Int.le_of_lt hW)
 rw[Int.add_mul,Int.one_mul]at h6
 have h7:t*18446744073709551616^m≤val 18446744073709551616 b:=by omega
 have h8:=Int.mul_le_mul_of_nonneg_right h7 (Int.le_of_lt hP)
 have h9:=Int.mul_le_mul_of_nonneg_right h1 (Int.le_of_lt hW)
 have e:t*18446744073709551616^m*P=t*P*18446744073709551616^m:=by
  rw[Int.mul_assoc,Int.mul_comm (18446744073709551616^m) P,←Int.mul_assoc]
 omega
theorem rep_word {v:Int} (h:0≤v∧v<18446744073709551616):∃r,Ev (fun k=>whole_trimmed.f k [v]) r∧Rep 18446744073709551616 v r:=by
 obtain⟨r,hr,h1,h2,h3⟩:=whole_trimmed_ev (B:=18446744073709551616) (l:=[v]) Z1 (by rw[Dig.cons];exact⟨h,Dig.nil⟩)
 exact⟨r,hr,h1,h2,by rw[h3];simp[val]⟩
theorem quo_ev {A D:Int} {a b:List Int} (ha:Rep 18446744073709551616 A a) (hb:Rep 18446744073709551616 D b) (hD:0<D) (la:a.length≤8388600) (lb:b.length≤8388600) :
  ∃q r,Ev (fun k=>whole_amount_quo.f k a b) (q,r)∧Rep 18446744073709551616 (A/D) q∧Rep 18446744073709551616 (A%D) r:=by
 have hA:=ha.nonneg J0
 obtain⟨K1,h1⟩:=whole_amount_cmp_ev a b Z0 Z0 ha.dig hb.dig ha.top hb.top
 rw[ha.val,hb.val]at h1
 by_cases hc:A<D
 ·refine⟨[],a,⟨K1,fun k hk=>?_⟩,⟨Dig.nil,trivial,?_⟩,?_⟩
  ·have e1:whole_amount_cmp.f k a b=_:=h1 k hk
   show whole_amount_quo.f k a b=_
   rw[whole_amount_quo.f,e1,Option.bind_some,sg_neg Z0,if_pos J0]
  ·rw[Int.ediv_eq_zero_of_lt hA hc];rfl
  rw[Int.emod_eq_of_lt hA hc];exact ha
 have hsg:¬sg (A-D)<0:=by unfold sg;split<;>(try split)<;>omega
 have hbpos:=(hb.pos_iff J0).2 hD
 by_cases h1b:b.length=1
 ·obtain⟨x,rfl⟩:=List.length_eq_one_iff.1 h1b
  have hx:x=D:=by have:=hb.val;simpa [val] using this
  have dx:=hb.dig.get 0 Z1
  have dx':0≤x∧x<18446744073709551616:=dx
  obtain⟨q,⟨K2,h2⟩,hq⟩:=byLimb_ev a x Z0 Z0 ha.dig
  rw[ha.val,hx]at hq
  have hm0:=Int.emod_nonneg A (show x≠0 by omega)
  have hm1:=Int.emod_lt_of_pos A (show 0<x by omega)
  obtain⟨r,⟨K3,h3⟩,hr⟩:=rep_word (v:=A%x) ⟨hm0,Z0⟩
  rw[hx]at hr
  refine⟨q,r,⟨K1+K2+K3,fun k hk=>?_⟩,hq,hr⟩
  have e1:whole_amount_cmp.f k a [x]=_:=h1 k Z0
  have e2:whole_amount_byLimb.f k a x=_:=h2 k Z0
  have e3:whole_trimmed.f k [A%x]=_:=h3 k Z0
  rw[ha.val]at e2
  show whole_amount_quo.f k a [x]=_
  rw[whole_amount_quo.f,e1,Option.bind_some,if_neg hsg,if_pos F1,show rd [x] 0=x from rfl,e2,Option.bind_some,e3,Option.bind_some]
 have hlen:=len_of_le J0 ha.dig hb.dig hb.top (by rw[ha.val,hb.val];omega)
 have hn2:2≤b.length:=by omega
 have gb:=getD_dig J0 hb.dig (b.length-1)
 have htop:b.getD (b.length-1) 0≠0:=by
  have hne:b≠[]:=by intro e;rw[e]at hn2;simp at hn2
  have:=(Top_iff b).1 hb.top hne
  rw[List.getLast_eq_getElem]at this
  rw[List.getD_eq_getElem?_getD,List.getElem?_eq_getElem Z0,Option.getD_some]
  exact this
 obtain⟨s,P,Q,hs,hSh,hp1,hp2⟩:=clz (x:=b.getD (b.length-1) 0) Z0
 have hP0:=hSh.P0
 obtain⟨v,⟨K2,h2⟩,hvl,dv,hvv⟩:=up_ev hSh b lb hb.dig
 obtain⟨u,⟨K3,h3⟩,hul,du,huv⟩:=up_ev hSh a la ha.dig
 obtain⟨n1,n2,n3⟩:=normal rfl hn2 hvl hb.dig dv hP0 ⟨Q,hSh.PQ⟩ hp1 hp2 hvv
 rw[hb.val]at n1 n3
 rw[ha.val]at huv
 have hvtl:(v.take b.length).length=b.length:=by rw[List.length_take];omega
 have hAl:=ha.lt J0
 have htopu:val 18446744073709551616 (u.drop (a.length-b.length+1))<val 18446744073709551616 (v.take b.length):=by
  rw[n1]
  have e:=val_split 18446744073709551616 u (a.length-b.length+1) Z0
  have t0:=val_nonneg (B:=18446744073709551616) J0 (du.take (a.length-b.length+1))
  have hW:=pow_pos (B:=18446744073709551616) J0 (a.length-b.length+1)
  refine Classical.byContradiction fun hx=>?_
  have h5:=Int.mul_le_mul_of_nonneg_left (show 18446744073709551616^(b.length-1)*P≤val 18446744073709551616 (u.drop (a.length-b.length+1)) by omega) (Int.le_of_lt hW)
  rw[←Int.mul_assoc,←Int.pow_add,show a.length-b.length+1+(b.length-1)=a.length from by omega]at h5
  have h6:=Int.mul_lt_mul_of_pos_right hAl hP0
  omega
 have hq0:∀t,(List.replicate (a.length-b.length+1) (0:Int)).getD t 0=0:=fun t=>by
  simp[List.getD_eq_getElem?_getD,List.getElem?_replicate];split<;>rfl
 obtain⟨u2,q2,⟨K4,h4⟩,w1,w2,w3,w4,w5,w6⟩:=go_run (v.take b.length) b.length hvtl hn2 lb (dv.take _) n2 (a.length-b.length+1) u (List.replicate (a.length-b.length+1) 0) Z0 du Z0 htopu (Dig.rep J0 _) Z1 (fun t _=>hq0 t)
 rw[val_replicate,Int.zero_mul,Int.add_zero,huv,n1]at w6
 rw[n1]at w5
 have hu0:=val_nonneg (B:=18446744073709551616) J0 w2
 obtain⟨d1,d2⟩:=scale_div (X:=A) (a:=D) (P:=P) (G:=val 18446744073709551616 q2) (r:=val 18446744073709551616 u2) hP0 hD Z0 hu0 w5
 obtain⟨q,⟨K5,h5⟩,q1,q3,q4⟩:=whole_trimmed_ev (B:=18446744073709551616) (l:=q2) (by rw[w4];simp;omega) w3
 have hvlt:=val_lt (B:=18446744073709551616) J0 (dv.take b.length)
 rw[hvtl,n1]at hvlt
 have hut:=val_take_of_lt (n:=b.length) w2 Z0
 obtain⟨r0,⟨K6,h6⟩,r1,r3,r4⟩:=whole_trimmed_ev (B:=18446744073709551616) (l:=u2.take b.length) (by rw[List.length_take];omega) (w2.take _)
 have aa:r0.length≤8388608:=by
  have:=rep_len J0 (Rep.mk r1 r3 (r4.trans hut.1)) (m:=b.length) Z0
  omega
 obtain⟨r,⟨K7,h7⟩,hr⟩:=down_ev hSh r0 aa r1
 rw[r4,hut.1,←d2]at hr
 refine⟨q,r,⟨K1+K2+K3+K4+K5+K6+K7,fun k hk=>?_⟩,⟨q1,q3,by rw[q4,d1]⟩,hr⟩
 have e1:whole_amount_cmp.f k a b=_:=h1 k Z0
 have e2:whole_amount_up.f k b s=_:=h2 k Z0
 have e3:whole_amount_up.f k a s=_:=h3 k Z0
 have e4:quo_go k u (v.take b.length) (List.replicate (a.length-b.length+1) 0) (((a.length-b.length+1:Nat):Int)-1)=_:=h4 k Z0
 have e5:whole_trimmed.f k q2=_:=h5 k Z0
 have e6:whole_trimmed.f k (u2.take b.length)=_:=h6 k Z0
 have e7:whole_amount_down.f k r0 s=_:=h7 k Z0
 have hs0:=hSh.s0
 have i1:(a.length:Int)-(b.length:Int)=((a.length-b.length+1:Nat):Int)-1:=by omega
 have i2:(b.length:Int)-1=((b.length-1:Nat):Int):=by omega
 show whole_amount_quo.f k a b=_
 rw[whole_amount_quo.f,e1,Option.bind_some,if_neg hsg,if_neg h1b,if_pos Z0,i2,rd_getD,hs,Option.bind_some,if_pos Z0,e2,Option.bind_some,e3,Option.bind_some,if_pos Z0,i1,e4,Option.bind_some,e5,Option.bind_some,e6,Option.bind_some,e7,Option.bind_some]
theorem mul_step (V c c' s x n X P B:Int) (hs:c'*B+s=x*n+c) (hv:V+c*P=X*n):(V+s*P)+c'*(P*B)=(X+x*P)*n:=by
 have h1:c'*(P*B)+s*P=(c'*B+s)*P:=by rw[Int.add_mul,Int.mul_assoc,Int.mul_comm P B]
 have h2:x*P*n=x*n*P:=by rw[Int.mul_assoc,Int.mul_comm P n,←Int.mul_assoc]
 rw[hs,Int.add_mul]at h1
 rw[Int.add_mul,h2]
 omega
theorem timesD_step (k:Nat) (a out:List Int) (n c t:Int) (i:Nat) (hi:i<a.length) (hl:a.length≤8388608) (ho:out.length=i) (ht:(c+a.getD i 0%4294967296*n)%4294967296=t) :
  tribunalref02_timesD.l0 (k+1) a n out c (i:Int)=tribunalref02_timesD.l0 k a n (out++[t%65536]) (t/65536) ((i+1:Nat):Int):=by
 have hwr:=step_wrap i a.length hi hl
 rw[tribunalref02_timesD.l0,if_pos Z0,if_pos Z0,if_pos Z0,rd_getD,ht,hwr,IntKind.wrap_u16]
theorem timesD_l0 (a:List Int) (n:Int) (hn:0≤n∧n<65536) (hl:a.length≤8388608) (da:Dig 65536 a):∀(m i:Nat) (out:List Int) (c:Int),i+m=a.length→out.length=i→Dig 65536 out→0≤c∧c<65536→val 65536 out+c*65536^i=val 65536 (a.take i)*n →
  ∃r,Ev (fun k=>tribunalref02_timesD.l0 k a n out c (i:Int)) r∧Rep 65536 (val 65536 a*n) r:=by
 intro m
 induction m with
 | zero=>
  intro i out c hi ho hd hc hv
  obtain⟨r,⟨K,hr⟩,h1,h2,h3⟩:=tribunalref02_trim_ev (B:=65536) (l:=out++[c]) U6 (Dig.append.2 ⟨hd,by rw[Dig.cons];exact⟨hc,Dig.nil⟩⟩)
  refine⟨r,⟨K+1,fun k hk=>?_⟩,h1,h2,?_⟩
  ·obtain⟨k,rfl⟩:∃j,k=j+1:=⟨k-1,Z0⟩
   have hk':tribunalref02_trim.f k (out++[c])=some r:=hr k Z0
   have hw:IntKind.u16.wrap c=c:=by rw[IntKind.wrap_u16];omega
   show tribunalref02_timesD.l0 (k+1) a n out c (i:Int)=some r
   rw[tribunalref02_timesD.l0,if_neg Z0,if_pos Z0,hw,hk',Option.bind_some]
  rw[h3,val_snoc,ho,hv,show i=a.length from by omega,List.take_length]
 | succ m ih=>
  intro i out c hi ho hd hc hv
  have hil:i<a.length:=by omega
  have ga:=getD_dig J0 da i
  have hb:=mul_bound (M:=65535) (x:=a.getD i 0) (y:=n) Z0 Z0
  have ht:(c+a.getD i 0%4294967296*n)%4294967296=a.getD i 0*n+c:=by
   rw[Int.emod_eq_of_lt ga.1 Z0]
   generalize a.getD i 0*n=p at *
   omega
  obtain⟨r,⟨K,hr⟩,hq⟩:=ih (i+1) (out++[(a.getD i 0*n+c)%65536]) ((a.getD i 0*n+c)/65536) Z0 U6
   (Dig.append.2 ⟨hd,J6⟩) (by generalize a.getD i 0*n=p at *;omega)
   (by rw[val_snoc,ho,val_take_getD,Int.pow_succ];exact mul_step _ c _ _ _ _ _ _ _ Z0 hv)
  refine⟨r,⟨K+1,fun k hk=>?_⟩,hq⟩
  obtain⟨k,rfl⟩:∃j,k=j+1:=⟨k-1,Z0⟩
  show tribunalref02_timesD.l0 (k+1) a n out c (i:Int)=some r
  rw[timesD_step k a out n c _ i hil hl ho ht]
  exact hr k Z0
theorem timesD_ev (a:List Int) (n:Int) (hn:0≤n∧n<65536) (hl:a.length≤8388608) (da:Dig 65536 a) :
  ∃r,Ev (fun k=>tribunalref02_timesD.f k a n) r∧Rep 65536 (val 65536 a*n) r:=by
 obtain⟨r,⟨K,hr⟩,hq⟩:=timesD_l0 a n hn hl da a.length 0 [] 0 Z0 rfl Dig.nil Z0 Ya
 refine⟨r,⟨K,fun k hk=>?_⟩,hq⟩
 show tribunalref02_timesD.f k a n=some r
 rw[tribunalref02_timesD.f]
 exact hr k hk
theorem times_len {A n:Int} {r:List Int} {L:Nat} (h:Rep 65536 (A*n) r) (hA:0≤A∧A<65536^L) (hn:0≤n∧n<65536):r.length≤L+1:=by
 refine rep_len J0 h ?_
 rw[Int.pow_succ]
 have h1:=Int.mul_le_mul_of_nonneg_left (show n≤65535 by omega) hA.1
 omega
theorem sg_le {n:Int}:sg n≤0↔n≤0:=by unfold sg;split<;>(try split)<;>omega
theorem digit_l0 {A D:Int} {a b:List Int} (ha:Rep 65536 A a) (hb:Rep 65536 D b) (hD:0<D) (la:a.length≤8388600) (lb:b.length≤8388600):∀(m:Nat) (lo hi:Int),(hi-lo).toNat≤m→0≤lo→lo≤hi→hi≤65535→D*lo≤A→A<D*(hi+1) →
  ∃r,Ev (fun k=>tribunalref02_digit.l0 k a b lo hi) (A/D,r)∧Rep 65536 (A%D) r:=by
 have hDl:=hb.lt J0
 have hA:=ha.nonneg J0
 intro m
 induction m with
 | zero=>
  intro lo hi hm h0 h1 h2 h3 h4
  have hlh:lo=hi:=by omega
  subst hlh
  obtain⟨t,⟨K1,e1⟩,ht⟩:=timesD_ev b lo Z0 Z0 hb.dig
  rw[hb.val]at ht
  have hlt:=times_len ht ⟨Int.le_of_lt hD,hDl⟩ Z0
  have hlen:=len_of_le J0 ha.dig ht.dig ht.top (by rw[ha.val,ht.val];exact h3)
  obtain⟨r,⟨K2,e2⟩,hr⟩:=subD_ev a t Z0 hlen (by rw[ha.val,ht.val];exact h3) ha.dig ht.dig
  rw[ha.val,ht.val]at hr
  have hdiv:A/D=lo:=div_eq hD (by rw[Int.mul_comm];exact h3) (by rw[Int.mul_comm];exact h4)
  have hmod:A%D=A-D*lo:=by
   have:=Int.mul_ediv_add_emod A D
   rw[hdiv]at this;omega
  refine⟨r,⟨K1+K2+1,fun k hk=>?_⟩,by rw[hmod];exact hr⟩
  obtain⟨k,rfl⟩:∃j,k=j+1:=⟨k-1,Z0⟩
  have g1:tribunalref02_timesD.f k b lo=_:=e1 k Z0
  have g2:tribunalref02_subD.f k a t=_:=e2 k Z0
  have hw:IntKind.u16.wrap lo=lo:=by rw[IntKind.wrap_u16];omega
  show tribunalref02_digit.l0 (k+1) a b lo lo=_
  rw[tribunalref02_digit.l0,if_neg Z0,g1,Option.bind_some,g2,Option.bind_some,hw,hdiv]
 | succ m ih=>
  intro lo hi hm h0 h1 h2 h3 h4
  by_cases hlt:lo<hi
  ·have hmid:(lo+hi+1)%4294967296/2=(lo+hi+1)/2:=by omega
   have m1:lo<(lo+hi+1)/2:=by omega
   have m2:(lo+hi+1)/2≤hi:=by omega
   generalize hmd:(lo+hi+1)/2=mid at *
   have hm1:(mid-1)%4294967296=mid-1:=by omega
   obtain⟨t,⟨K1,e1⟩,ht⟩:=timesD_ev b mid Z0 Z0 hb.dig
   rw[hb.val]at ht
   have htl:=times_len ht ⟨Int.le_of_lt hD,hDl⟩ Z0
   obtain⟨K2,e2⟩:=tribunalref02_cmpD_ev t a Z0 Z0 ht.dig ha.dig ht.top ha.top
   rw[ht.val,ha.val]at e2
   by_cases hc:D*mid≤A
   ·obtain⟨r,⟨K3,e3⟩,hr⟩:=ih mid hi Z0 Z0 m2 h2 hc h4
    refine⟨r,⟨K1+K2+K3+1,fun k hk=>?_⟩,hr⟩
    obtain⟨k,rfl⟩:∃j,k=j+1:=⟨k-1,Z0⟩
    have g1:tribunalref02_timesD.f k b mid=_:=e1 k Z0
    have g2:tribunalref02_cmpD.f k t a=_:=e2 k Z0
    show tribunalref02_digit.l0 (k+1) a b lo hi=_
    rw[tribunalref02_digit.l0,if_pos hlt,hmid,g1,Option.bind_some,g2,Option.bind_some,if_pos (sg_le.2 Z0)]
    exact e3 k Z0
   obtain⟨r,⟨K3,e3⟩,hr⟩:=ih lo (mid-1) Z0 h0 Z0 Z0 h3 (by rw[show mid-1+1=mid from by omega];omega)
   refine⟨r,⟨K1+K2+K3+1,fun k hk=>?_⟩,hr⟩
   obtain⟨k,rfl⟩:∃j,k=j+1:=⟨k-1,Z0⟩
   have g1:tribunalref02_timesD.f k b mid=_:=e1 k Z0
   have g2:tribunalref02_cmpD.f k t a=_:=e2 k Z0
   show tribunalref02_digit.l0 (k+1) a b lo hi=_
   rw[tribunalref02_digit.l0,if_pos hlt,hmid,g1,Option.bind_some,g2,Option.bind_some,if_neg (fun x=>hc (by have:=sg_le.1 x;omega)),hm1]
   exact e3 k Z0
  exact ih lo hi Z0 h0 h1 h2 h3 h4
theorem digit_ev {A D:Int} {a b:List Int} (ha:Rep 65536 A a) (hb:Rep 65536 D b) (hD:0<D) (la:a.length≤8388600) (lb:b.length≤8388600) (hlt:A<D*65536) :
  ∃r,Ev (fun k=>tribunalref02_digit.f k a b) (A/D,r)∧Rep 65536 (A%D) r:=by
 have hA:=ha.nonneg J0
 obtain⟨r,⟨K,hr⟩,hq⟩:=digit_l0 ha hb hD la lb 65535 0 65535 Z0 Z0 Z0 Z0 Z0 Z0
 refine⟨r,⟨K,fun k hk=>?_⟩,hq⟩
 show tribunalref02_digit.f k a b=_
 rw[tribunalref02_digit.f]
 exact hr k hk
theorem divD_l0 {D:Int} {b:List Int} (a:List Int) (hb:Rep 65536 D b) (hD:0<D) (hl:a.length≤8388608) (lb:b.length≤8388590) (da:Dig 65536 a):∀(n:Nat) (q r:List Int) (R i:Int),n≤a.length→i=(n:Int)-1→q.length=a.length→Dig 65536 q→(∀t,t<n→q.getD t 0=0)→Rep 65536 R r→R<D→val 65536 q*D+R*65536^n+val 65536 (a.take n)=val 65536 a →
  ∃q2 r2,Ev (fun k=>tribunalref02_divD.l0 k a b q r i) (q2,r2)∧Rep 65536 (val 65536 a/D) q2∧Rep 65536 (val 65536 a%D) r2:=by
 have hDl:=hb.lt J0
 intro n
 induction n with
 | zero=>
  intro q r R i hn hi hq dq hz hr hR hv
  have hR0:=hr.nonneg J0
  obtain⟨q2,⟨K,hK⟩,h1,h2,h3⟩:=tribunalref02_trim_ev (B:=65536) (l:=q) Z0 dq
  have hv':val 65536 q*D+R=val 65536 a:=by rw[←hv];simp[val]
  have hdiv:val 65536 a/D=val 65536 q:=div_eq hD Z0 Xa
  have hmod:val 65536 a%D=R:=by
   have h4:=Int.mul_ediv_add_emod (val 65536 a) D
   rw[hdiv,Int.mul_comm]at h4
   omega
  refine⟨q2,r,⟨K+1,fun k hk=>?_⟩,⟨h1,h2,by rw[h3,hdiv]⟩,by rw[hmod];exact hr⟩
  obtain⟨k,rfl⟩:∃j,k=j+1:=⟨k-1,Z0⟩
  have hk':tribunalref02_trim.f k q=some q2:=hK k Z0
  show tribunalref02_divD.l0 (k+1) a b q r i=_
  rw[tribunalref02_divD.l0,if_neg Z0,hk',Option.bind_some]
 | succ n ih=>
  intro q r R i hn hi hq dq hz hr hR hv
  have hR0:=hr.nonneg J0
  have hi':i=(n:Int):=by omega
  subst hi'
  have ga:=getD_dig J0 da n
  have hrl:r.length≤b.length:=rep_len J0 hr Z0
  have dr:Dig 65536 (a.getD n 0::r):=Dig.cons.2 ⟨ga,hr.dig⟩
  obtain⟨t,⟨K1,e1⟩,h1,h2,h3⟩:=tribunalref02_trim_ev (B:=65536) (l:=a.getD n 0::r) U6 dr
  have ht:Rep 65536 (a.getD n 0+65536*R) t:=⟨h1,h2,by rw[h3];show a.getD n 0+65536*val 65536 r=_;rw[hr.val]⟩
  have htl:t.length≤b.length+1:=rep_len J0 ht (by rw[Int.pow_succ];omega)
  obtain⟨r',⟨K2,e2⟩,hr'⟩:=digit_ev ht hb hD Z0 Z0 Z0
  have g1:=Int.mul_ediv_add_emod (a.getD n 0+65536*R) D
  have g2:=Int.emod_nonneg (a.getD n 0+65536*R) (Int.ne_of_gt hD)
  have g3:=Int.emod_lt_of_pos (a.getD n 0+65536*R) hD
  have g4:0≤(a.getD n 0+65536*R)/D:=Int.ediv_nonneg Z0 Z0
  have g5:(a.getD n 0+65536*R)/D<65536:=Int.ediv_lt_of_lt_mul hD Z0
  generalize (a.getD n 0+65536*R)/D=g at *
  generalize hR':(a.getD n 0+65536*R)%D=R' at *
  clear hR'
  obtain⟨q2,r2,⟨K3,e3⟩,hq2⟩:=ih (q.set n g) r' R' ((n:Int)-1) Z0 rfl (by simp[hq]) (dq.set n ⟨g4,g5⟩) (fun t ht=>by rw[getD_set_ne _ _ _ _ Z0];exact hz t Z0) hr' g3 (by
   rw[←hv,val_set_getD _ _ _ _ Z0,hz n Z0,val_take_getD,Int.sub_zero,Int.pow_succ,Int.add_mul]
   generalize (65536:Int)^n=W
   have x1:g*W*D=D*g*W:=by rw[Int.mul_comm (g*W),←Int.mul_assoc]
   have x2:R*(W*65536)=65536*R*W:=by rw[Int.mul_comm W,←Int.mul_assoc,Int.mul_comm R]
   have x3:(D*g+R')*W=(a.getD n 0+65536*R)*W:=by rw[g1]
   rw[Int.add_mul,Int.add_mul]at x3
   rw[x1,x2]
   omega)
  refine⟨q2,r2,⟨K1+K2+K3+1,fun k hk=>?_⟩,hq2⟩
  obtain⟨k,rfl⟩:∃j,k=j+1:=⟨k-1,Z0⟩
  have f1:tribunalref02_trim.f k ([a.getD n 0]++r)=some t:=e1 k Z0
  have f2:tribunalref02_digit.f k t b=_:=e2 k Z0
  have f3:=e3 k Z0
  show tribunalref02_divD.l0 (k+1) a b q r (n:Int)=_
  rw[tribunalref02_divD.l0,if_pos Z0,if_pos Z0,if_pos Z0,Option.bind_some,rd_getD,if_pos U6,f1,Option.bind_some,f2,Option.bind_some,if_pos Z0,Int.toNat_natCast,w64 _ Z0]
  exact f3
theorem divD_ev {A D:Int} {a b:List Int} (ha:Rep 65536 A a) (hb:Rep 65536 D b) (hD:0<D) (la:a.length≤8388608) (lb:b.length≤8388590) :
  ∃q r,Ev (fun k=>tribunalref02_divD.f k a b) (q,r)∧Rep 65536 (A/D) q∧Rep 65536 (A%D) r:=by
 have hz:∀t,(List.replicate a.length (0:Int)).getD t 0=0:=fun t=>by
  simp[List.getD_eq_getElem?_getD,List.getElem?_replicate];split<;>rfl
 obtain⟨q2,r2,⟨K,hK⟩,h1,h2⟩:=divD_l0 a hb hD la lb ha.dig a.length (List.replicate a.length 0) [] 0 ((a.length:Int)-1) (Nat.le_refl _) rfl Z1 (Dig.rep J0 _) (fun t _=>hz t) ⟨Dig.nil,trivial,rfl⟩ hD (by rw[val_replicate,List.take_length];simp)
 rw[ha.val]at h1 h2
 refine⟨q2,r2,⟨K,fun k hk=>?_⟩,h1,h2⟩
 show tribunalref02_divD.f k a b=_
 rw[tribunalref02_divD.f,if_pos Z0,Int.toNat_natCast,if_pos Z0,w64 _ Z0]
 exact hK k hk
def qn (n m:Int):Int:=if(decide (n<0) != decide (m<0))=true then -((n.natAbs:Int)/(m.natAbs:Int)) else(n.natAbs:Int)/(m.natAbs:Int)
def rn (n m:Int):Int:=if decide (n<0)=true then -((n.natAbs:Int)%(m.natAbs:Int)) else(n.natAbs:Int)%(m.natAbs:Int)
theorem cut_num {n m:Int} {s t:Bool} {a b:List Int} (ha:Num 18446744073709551616 n s a) (hb:Num 18446744073709551616 m t b) (hm:m≠0) (la:a.length≤8388600) (lb:b.length≤8388600) :
  ∃u q v r,Ev (fun k=>whole_number_cut.f k a s b t) (q,u,r,v)∧Num 18446744073709551616 (qn n m) u q∧Num 18446744073709551616 (rn n m) v r:=by
 obtain⟨q,r,⟨K,hK⟩,hq,hr⟩:=quo_ev ha.rep hb.rep Z0 la lb
 refine⟨_,q,_,r,⟨K,fun k hk=>?_⟩,Num.of_rep' J0 hq (s != t) (by rw[ha.sign,hb.sign];rfl),Num.of_rep' J0 hr s (by rw[ha.sign];rfl)⟩
 have e:whole_amount_quo.f k a b=_:=hK k hk
 show whole_number_cut.f k a s b t=_
 rw[whole_number_cut.f,e,Option.bind_some,signed_eq,Option.bind_some,signed_eq,Option.bind_some]
theorem rMake_rep {v:Int} {l:List Int} (h:Rep 65536 v l) (hl:l.length≤8388608) (b:Bool) {n:Int} (hn:n=if b then -v else v):∃u r,Ev (fun k=>tribunalref02_Make.f k b l) (u,r)∧Num 65536 n u r:=by
 obtain⟨r,hE,h1,h2,h3⟩:=Make_ev b l Z0 h.dig
 exact⟨_,r,hE,Num.of_rep' J0 ⟨h1,h2,h3.trans h.val⟩ b hn⟩
theorem div_small {A D:Int} {L:Nat} (hA:0≤A∧A<65536^L) (hD:0<D):A/D<65536^L∧A%D<65536^L:=by
 have h1:=Int.ediv_le_self D hA.1
 have h2:=Int.mul_ediv_add_emod A D
 have h3:0≤A/D:=Int.ediv_nonneg hA.1 (Int.le_of_lt hD)
 have h4:=Int.mul_nonneg (Int.le_of_lt hD) h3
 exact⟨Z0,Z0⟩
theorem Cut_num {n m:Int} {s t:Bool} {a b:List Int} (ha:Num 65536 n s a) (hb:Num 65536 m t b) (hm:m≠0) (la:a.length≤8388590) (lb:b.length≤8388590) :
  ∃u q v r,Ev (fun k=>tribunalref02_Cut.f k s a t b) (u,q,v,r)∧Num 65536 (qn n m) u q∧Num 65536 (rn n m) v r∧q.length≤a.length∧r.length≤a.length:=by
 obtain⟨q0,r0,⟨K1,h1⟩,hq,hr⟩:=divD_ev ha.rep hb.rep Z0 Z0 lb
 have hA0:=ha.rep.nonneg J0
 have hA1:=ha.rep.lt J0
 obtain⟨d1,d2⟩:=div_small (D:=(m.natAbs:Int)) ⟨hA0,hA1⟩ Z0
 have lq:=rep_len J0 hq d1
 have lr:=rep_len J0 hr d2
 obtain⟨u,q,⟨K2,h2⟩,N1⟩:=rMake_rep hq Z0 (s != t) (n:=qn n m) (by rw[ha.sign,hb.sign];rfl)
 obtain⟨v,r,⟨K3,h3⟩,N2⟩:=rMake_rep hr Z0 s (n:=rn n m) (by rw[ha.sign];rfl)
 have eq1:((qn n m).natAbs:Int)=(n.natAbs:Int)/(m.natAbs:Int):=by
  have:0≤(n.natAbs:Int)/(m.natAbs:Int):=Int.ediv_nonneg Z0 Z0
  unfold qn;split<;>omega
 have er1:((rn n m).natAbs:Int)=(n.natAbs:Int)%(m.natAbs:Int):=by
  have:0≤(n.natAbs:Int)%(m.natAbs:Int):=Int.emod_nonneg _ Z0
  unfold rn;split<;>omega
 refine⟨u,q,v,r,⟨K1+K2+K3,fun k hk=>?_⟩,N1,N2,rep_len J0 N1.rep (by rw[eq1];exact d1),rep_len J0 N2.rep (by rw[er1];exact d2)⟩
 have e1:tribunalref02_divD.f k a b=_:=h1 k Z0
 have e2:tribunalref02_Make.f k (s != t) q0=_:=h2 k Z0
 have e3:tribunalref02_Make.f k s r0=_:=h3 k Z0
 show tribunalref02_Cut.f k s a t b=_
 rw[tribunalref02_Cut.f,e1,Option.bind_some,e2,Option.bind_some,e3,Option.bind_some]
theorem long_eq (l:List Int) (s:Bool):whole_number_long.f l s=some (decide ((l.length:Int)>4096)):=rfl
theorem null_eq (l:List Int):whole_amount_null.f l=some (decide (l=[])):=by
 rw[whole_amount_null.f]
 congr 1
 cases l<;>simp<;>omega
theorem num_nil {B n:Int} (hB:0<B) {s:Bool} {a:List Int} (h:Num B n s a):a=[]↔n=0:=by
 rw[h.rep.nil_iff hB];omega
theorem qn_abs (n m:Int):((qn n m).natAbs:Int)=(n.natAbs:Int)/(m.natAbs:Int):=by
 have:0≤(n.natAbs:Int)/(m.natAbs:Int):=Int.ediv_nonneg Z0 Z0
 unfold qn;split<;>omega
theorem rn_abs (n:Int) {m:Int} (hm:m≠0):((rn n m).natAbs:Int)=(n.natAbs:Int)%(m.natAbs:Int):=by
 have:0≤(n.natAbs:Int)%(m.natAbs:Int):=Int.emod_nonneg _ Z0
 unfold rn;split<;>omega
theorem qn_le (n m:Int):((qn n m).natAbs:Int)≤n.natAbs:=by
 rw[qn_abs];exact Int.ediv_le_self _ Z0
theorem rn_lt (n:Int) {m:Int} (hm:m≠0):((rn n m).natAbs:Int)<m.natAbs:=by
 rw[rn_abs n hm];exact Int.emod_lt_of_pos _ Z0
theorem len_small {B n k:Int} (hB:0<B) {s t:Bool} {a q:List Int} (ha:Num B n s a) (hq:Num B k t q) (h:(k.natAbs:Int)≤n.natAbs):q.length≤a.length:=
 rep_len hB hq.rep (Int.lt_of_le_of_lt h (ha.rep.lt hB))
theorem inv_step (V c c' lo2 o X x y P R W B:Int) (hs:c'*B+lo2=x*y+o+c) (hv:V+c*(P*R)=X+x*P*W):(V+(lo2-o)*(P*R))+c'*(P*R*B)=X+x*P*(W+y*R):=by
 have e:c'*B=x*y+o+c-lo2:=by omega
 have:c'*(P*R*B)=(c'*B)*(P*R):=by grind
 rw[this,e]
 grind
theorem inv_exit (V c X x P R W:Int) (hv:V+c*(P*R)=X+x*P*W):V+(c-0)*(P*R)=X+x*P*W:=by rw[Int.sub_zero];exact hv
theorem l1_step (k:Nat) (b out a:List Int) (i j x c n1 n2 p hi lo t1 c1 lo2 c2:Int) (h1:j<n2) (h2:0≤j) (h3:j<(b.length:Int)) (h4:bits_Mul64.f x (rd b j)=some (hi,lo)) (h5:wrap64 (i+j)=p) (h6:0≤p) (h7:p<(out.length:Int)) (h8:bits_Add64.f lo (rd out p) 0=some (t1,c1)) (h9:bits_Add64.f t1 c 0=some (lo2,c2)) :
  whole_amount_times.l1 (k+1) b out i x c a n1 i b n2 j=whole_amount_times.l1 k b (out.set p.toNat lo2) i x (IntKind.u64.wrap (IntKind.u64.wrap (hi+c1)+c2)) a n1 i b n2 (wrap64 (j+1)):=by
 rw[whole_amount_times.l1,if_pos h1,if_pos h2,if_pos h3,h4,Option.bind_some,h5,if_pos h6,if_pos h7,h8,Option.bind_some,h9,Option.bind_some]
theorem times_in (a b:List Int) (ha:a.length≤1048576) (hb:b.length≤1048576) (da:Dig 18446744073709551616 a) (db:Dig 18446744073709551616 b) (i:Nat) (hi:i<a.length) (X:Int) (Q:List Int→Prop)
  (cont:∀out,out.length=a.length+b.length→Dig 18446744073709551616 out→val 18446744073709551616 out=X+a[i]*18446744073709551616^i*val 18446744073709551616 b→(∀t,i+1+b.length≤t→out.getD t 0=0)→∃r,Ev (fun k=>whole_amount_times.l0 k b out a (a.length:Int) ((i:Int)+1)) r∧Q r) :
  ∀(m j:Nat) (out:List Int) (c:Int),j+m=b.length→out.length=a.length+b.length→Dig 18446744073709551616 out→0≤c∧c<18446744073709551616→val 18446744073709551616 out+c*18446744073709551616^(i+j)=X+a[i]*18446744073709551616^i*val 18446744073709551616 (b.take j)→(∀t,i+b.length≤t→out.getD t 0=0) →
  ∃r,Ev (fun k=>whole_amount_times.l1 k b out (i:Int) a[i] c a (a.length:Int) (i:Int) b (b.length:Int) (j:Int)) r∧Q r:=by
 intro m
 induction m with
 | zero=>
  intro j out c hj ho hd hc hv hz
  have hj':j=b.length:=by omega
  subst hj'
  have h0:out[i+b.length]' Z0=0:=by
   have:=hz (i+b.length) Z0
   rwa [List.getD_eq_getElem?_getD,List.getElem?_eq_getElem Z0,Option.getD_some]at this
  obtain⟨r,⟨K,hr⟩,hq⟩:=cont (out.set (i+b.length) c) (by simpa using ho) (hd.set _ hc)
   (by
    rw[List.take_length,Int.pow_add]at hv
    rw[val_set _ _ _ _ Z0,h0,Int.pow_add]
    exact inv_exit _ _ _ _ _ _ _ hv)
   (fun t ht=>by rw[getD_set_ne _ _ _ _ Z0];exact hz t Z0)
  refine⟨r,⟨K+1,fun k hk=>?_⟩,hq⟩
  obtain⟨k,rfl⟩:∃j,k=j+1:=⟨k-1,Z0⟩
  simp only[whole_amount_times.l1]
  rw[if_neg Z0,w64 _ Z0,if_pos Z0,if_pos Z0,w64 _ Z0]
  have:=hr k Z0
  rw[show i+b.length=((i:Int)+(b.length:Int)).toNat from by omega]at this
  with_reducible exact this
 | succ m ih=>
  intro j out c hj ho hd hc hv hz
  have hx:=da.get i hi
  have hy:=db.get j Z0
  have hp:i+j<out.length:=by omega
  have hoo:=hd.get (i+j) hp
  obtain⟨h1,lo,t1,c1,lo2,c2,c',hm,ha1,ha2,hw,hlo,hcc,hs⟩:=mstep a[i] b[j] out[i+j] c hx hy hoo hc
  obtain⟨r,⟨K,hr⟩,hq⟩:=ih (j+1) (out.set (i+j) lo2) c' Z0 (by simpa using ho) (hd.set _ hlo) hcc
   (by
    rw[Int.pow_add]at hv
    rw[val_set _ _ _ _ hp,val_take_succ _ b j Z0,show i+(j+1)=(i+j)+1 from by omega,Int.pow_succ,Int.pow_add]
    exact inv_step _ _ _ _ _ _ _ _ _ _ _ _ hs hv)
   (fun t ht=>by rw[getD_set_ne _ _ _ _ Z0];exact hz t ht)
  refine⟨r,⟨K+1,fun k hk=>?_⟩,hq⟩
  obtain⟨k,rfl⟩:∃j,k=j+1:=⟨k-1,Z0⟩
  have:=hr k Z0
  show whole_amount_times.l1 (k+1) b out (i:Int) a[i] c a (a.length:Int) (i:Int) b (b.length:Int) (j:Int)=some r
  rw[l1_step k b out a i j a[i] c a.length b.length (i+j:Nat) h1 lo t1 c1 lo2 c2 Z0 Z0 Z0 (by rw[rd_nat b j Z0];exact hm) (by rw[w64 _ Z0];omega) Z0 Z0 (by rw[rd_nat out (i+j) hp];exact ha1) ha2,hw,w64 _ Z0,Int.toNat_natCast]
  rw[show((j+1:Nat):Int)=(j:Int)+1 from by omega]at this
  with_reducible exact this
theorem times_out (a b:List Int) (ha:a.length≤1048576) (hb:b.length≤1048576) (da:Dig 18446744073709551616 a) (db:Dig 18446744073709551616 b):∀(n i:Nat) (out:List Int),i+n=a.length→out.length=a.length+b.length→Dig 18446744073709551616 out→val 18446744073709551616 out=val 18446744073709551616 (a.take i)*val 18446744073709551616 b→(∀t,i+b.length≤t→out.getD t 0=0) →
  ∃r,Ev (fun k=>whole_amount_times.l0 k b out a (a.length:Int) (i:Int)) r∧(Dig 18446744073709551616 r∧Top r∧val 18446744073709551616 r=val 18446744073709551616 a*val 18446744073709551616 b):=by
 intro n
 induction n with
 | zero=>
  intro i out hi ho hd hv hz
  obtain⟨r,⟨K,hr⟩,h1,h2,h3⟩:=whole_trimmed_ev (B:=18446744073709551616) (l:=out) Z0 hd
  refine⟨r,⟨K+1,fun k hk=>?_⟩,h1,h2,by rw[h3,hv,show i=a.length from by omega,List.take_length]⟩
  obtain⟨k,rfl⟩:∃j,k=j+1:=⟨k-1,Z0⟩
  show whole_amount_times.l0 (k+1) b out a (a.length:Int) (i:Int)=some r
  have hk':whole_trimmed.f k out=some r:=hr k Z0
  rw[whole_amount_times.l0,if_neg Z0,hk',Option.bind_some]
 | succ n ih=>
  intro i out hi ho hd hv hz
  have hil:i<a.length:=by omega
  obtain⟨r,⟨K,hr⟩,hq⟩:=times_in a b ha hb da db i hil (val 18446744073709551616 (a.take i)*val 18446744073709551616 b) _ (fun out' h1 h2 h3 h4=>by
    have:=ih (i+1) out' Z0 h1 h2 (by rw[h3,val_take_succ _ a i hil,Int.add_mul]) h4
    rwa [show((i+1:Nat):Int)=(i:Int)+1 from by omega]at this) b.length 0 out 0 Z0 ho hd ⟨Z0,Z0⟩ (by rw[hv];simp[val]) hz
  refine⟨r,⟨K+1,fun k hk=>?_⟩,hq⟩
  obtain⟨k,rfl⟩:∃j,k=j+1:=⟨k-1,Z0⟩
  show whole_amount_times.l0 (k+1) b out a (a.length:Int) (i:Int)=some r
  have:=hr k Z0
  rw[show((0:Nat):Int)=0 from rfl]at this
  rw[whole_amount_times.l0,if_pos Z0,if_pos Z0,if_pos Z0,rd_nat a i hil]
  with_reducible exact this
theorem times_ev (a b:List Int) (ha:a.length≤1048576) (hb:b.length≤1048576) (da:Dig 18446744073709551616 a) (db:Dig 18446744073709551616 b) :
  ∃r,Ev (fun k=>whole_amount_times.f k a b) r∧Dig 18446744073709551616 r∧Top r∧val 18446744073709551616 r=val 18446744073709551616 a*val 18446744073709551616 b:=by
 obtain⟨r,⟨K,hr⟩,hq⟩:=times_out a b ha hb da db a.length 0 (List.replicate (a.length+b.length) 0) Z0 Z1 (Dig.rep J0 _) (by rw[val_replicate];simp[val]) (fun t _=>by simp[List.getD_eq_getElem?_getD,List.getElem?_replicate];split<;>rfl)
 refine⟨r,⟨K,fun k hk=>?_⟩,hq⟩
 show whole_amount_times.f k a b=some r
 have hw:wrap64 ((a.length:Int)+(b.length:Int))=((a.length+b.length:Nat):Int):=by rw[w64 _ Z0];omega
 rw[whole_amount_times.f,hw,Int.toNat_natCast,if_pos Z0,if_pos Z0]
 exact hr k hk
def AN (L:Nat) (n:Int) (s:Bool) (l:List Int):Prop:=∃a s1,Ev (fun k=>whole_of.f k s l) (a,s1)∧Num 18446744073709551616 n s1 a∧a.length≤L
theorem of_num' {n:Int} {s:Bool} {r:List Int} (h:Num 18446744073709551616 n s r) (hl:r.length≤1048576):Ev (fun k=>whole_of.f k s r) (r,s):=by
 obtain⟨q,hq,_,h1,h2,h3⟩:=of_ev s r hl h.rep.dig
 have e:q=r:=h.rep.uniq J0 ⟨h1,h2,h3.trans h.rep.val⟩ |>.symm
 subst e
 have e1:=h.sign
 have e2:=h.rep.pos_iff J0
 have es:(s&&decide (0<q.length))=s:=by
  cases s
  ·rfl
  have hn:n<0:=of_decide_eq_true e1.symm
  have:=e2.2 Z0
  simp[this]
 rw[es]at hq
 exact hq
theorem AN.of {L:Nat} {n:Int} {s:Bool} {r:List Int} (h:Num 18446744073709551616 n s r) (hl:r.length≤L) (hL:L≤1048576):AN L n s r:=⟨r,s,of_num' h Z0,h,hl⟩
theorem AN.up {L L':Nat} {n:Int} {s:Bool} {l:List Int} (h:AN L n s l) (hL:L≤L'):AN L' n s l:=by
 obtain⟨a,s1,h1,h2,h3⟩:=h
 exact⟨a,s1,h1,h2,Z0⟩
theorem told_ok (s:Bool) {l:List Int} (h:l.length≤4096):whole_number_told.f l s=some (s,l,0):=by
 simp only[whole_number_told.f,whole_number_long.f,Option.bind_some]
 rw[if_neg U6,whole_number_out.f,api_Nat_uint64.f,if_pos Z0,Option.bind_some,Option.bind_some]
theorem out_ok (s:Bool) {l:List Int} (h:l.length≤1048576):whole_number_out.f l s=some (s,l):=by
 rw[whole_number_out.f,api_Nat_uint64.f,if_pos Z0,Option.bind_some]
section
variable {L L':Nat} {n m:Int} {s t:Bool} {l p:List Int}
theorem AN.add (h:AN L n s l) (g:AN L' m t p) (hL:L≤4000) (hL':L'≤4000):∃u q,Ev (fun k=>whole_Add.f k s l t p) (u,q,0)∧Num 18446744073709551616 (n+m) u q∧q.length≤max L L'+1:=by
 obtain⟨a,s1,⟨K1,e1⟩,N1,l1⟩:=h
 obtain⟨b,s2,⟨K2,e2⟩,N2,l2⟩:=g
 obtain⟨u,r,⟨K3,e3⟩,N3⟩:=plus_num N1 N2 Z0 Z0
 have hr:=num_len J0 N1 N2 N3 Z0 (L:=max L L') Z0 Z0
 refine⟨u,r,⟨K1+K2+K3,fun k hk=>?_⟩,N3,hr⟩
 have g1:whole_of.f k s l=_:=e1 k Z0
 have g2:whole_of.f k t p=_:=e2 k Z0
 have g3:whole_number_plus.f k a s1 b s2=_:=e3 k Z0
 show whole_Add.f k s l t p=_
 rw[whole_Add.f,g1,Option.bind_some,g2,Option.bind_some,g3,Option.bind_some,told_ok u (show r.length≤4096 by omega),Option.bind_some]
theorem nil_num' (B:Int):Num B 0 false []:=⟨⟨Dig.nil,trivial,rfl⟩,rfl⟩
theorem AN.sign (h:AN L n s l) (hL:L≤1048576):Ev (fun k=>whole_Sign.f k s l) (sg n):=by
 obtain⟨a,s1,⟨K1,e1⟩,N1,l1⟩:=h
 obtain⟨K3,e3⟩:=cmp_num N1 (nil_num' _) Z0 Z1
 refine⟨K1+K3,fun k hk=>?_⟩
 have g1:whole_of.f k s l=_:=e1 k Z0
 have g3:whole_number_cmp.f k a s1 [] false=_:=e3 k Z0
 show whole_Sign.f k s l=_
 rw[whole_Sign.f,g1,Option.bind_some,g3,Option.bind_some,Int.sub_zero]
theorem AN.neg (h:AN L n s l) (hL:L≤1048576):∃u q,Ev (fun k=>whole_Neg.f k s l) (u,q)∧Num 18446744073709551616 (-n) u q∧q.length≤L:=by
 obtain⟨a,s1,⟨K1,e1⟩,N1,l1⟩:=h
 obtain⟨u,e2,N2⟩:=opposite_num N1
 refine⟨u,a,⟨K1,fun k hk=>?_⟩,N2,l1⟩
 have g1:whole_of.f k s l=_:=e1 k Z0
 show whole_Neg.f k s l=_
 rw[whole_Neg.f,g1,Option.bind_some,e2,Option.bind_some,out_ok _ (show a.length≤1048576 by omega),Option.bind_some]
theorem pair_ok (u v:Bool) {q r:List Int} (hq:q.length≤4096) (hr:r.length≤4096):Ev (fun k=>whole_pair.f k q u r v) (u,q,v,r,0):=by
 refine⟨1,fun k hk=>?_⟩
 obtain⟨k,rfl⟩:∃j,k=j+1:=⟨k-1,Z0⟩
 show whole_pair.f (k+1) q u r v=_
 rw[whole_pair.f,long_eq,Option.bind_some,if_neg U6,long_eq,Option.bind_some,whole_pair.j0,if_neg U6,out_ok _ (show q.length≤1048576 by omega),Option.bind_some,out_ok _ (show r.length≤1048576 by omega),Option.bind_some]
theorem AN.quo (h:AN L n s l) (g:AN L' m t p) (hm:m≠0) (hL:L≤4000) (hL':L'≤4000):∃u q v r,Ev (fun k=>whole_Quo.f k s l t p) (u,q,v,r,0)∧Num 18446744073709551616 (qn n m) u q∧Num 18446744073709551616 (rn n m) v r∧q.length≤L∧r.length≤L':=by
 obtain⟨a,s1,⟨K1,e1⟩,N1,l1⟩:=h
 obtain⟨b,s2,⟨K2,e2⟩,N2,l2⟩:=g
 obtain⟨u,q,v,r,⟨K3,e3⟩,N3,N4⟩:=cut_num N1 N2 hm Z0 Z0
 have hne:¬decide (b=[])=true:=by simpa using fun h=>hm ((num_nil J0 N2).1 h)
 have lq:=len_small J0 N1 N3 (qn_le n m)
 have lr:=len_small J0 N2 N4 (Int.le_of_lt (rn_lt n hm))
 obtain⟨K4,e4⟩:=pair_ok u v (q:=q) (r:=r) Z0 Z0
 refine⟨u,q,v,r,⟨K1+K2+K3+K4,fun k hk=>?_⟩,N3,N4,Z0,Z0⟩
 have g1:whole_of.f k s l=_:=e1 k Z0
 have g2:whole_of.f k t p=_:=e2 k Z0
 have g3:whole_number_cut.f k a s1 b s2=_:=e3 k Z0
 have g4:whole_pair.f k q u r v=_:=e4 k Z0
 show whole_Quo.f k s l t p=_
 rw[whole_Quo.f,g2,Option.bind_some,null_eq,Option.bind_some,if_neg hne,g1,Option.bind_some,g3,Option.bind_some,g4,Option.bind_some]
theorem AN.zero:∃v q,Ev (fun k=>whole_Of.f k 0) (v,q)∧Num 18446744073709551616 0 v q∧q.length≤1:=by
 have e:whole_Of.f 5 0=some (false,[]):=by kernel_rfl
 exact⟨false,[],Ev.of (fun k=>whole_Of.mono 0 k) (k:=5) e,nil_num' _,Z1⟩
end
theorem Ev.step' {α:Type} {f g:Nat→Option α} {z:α} (K0:Nat) (h:Ev f z) (e:∀k,K0≤k→g (k+1)=f k):Ev g z:=by
 obtain⟨K,hK⟩:=h
 refine⟨K+K0+1,fun k hk=>?_⟩
 obtain⟨k,rfl⟩:∃j,k=j+1:=⟨k-1,Z0⟩
 rw[e k Z0]
 exact hK k Z0
theorem rd_T25_nat'' (l:List S25) (n:Nat) (h:n<l.length):rd_T25 l (n:Int)=l[n]:=by
 simp[rd_T25,List.getD_eq_getElem?_getD,List.getElem?_eq_getElem h]
theorem gcd_mod (a b:Nat):Nat.gcd a b=Nat.gcd b (a%b):=by rw[Nat.gcd_comm,Nat.gcd_rec,Nat.gcd_comm]
theorem gcd_rn (n:Int) {m:Int} (hm:m≠0):Nat.gcd n.natAbs m.natAbs=Nat.gcd m.natAbs (rn n m).natAbs:=by
 have h:(rn n m).natAbs=n.natAbs%m.natAbs:=by
  have:=rn_abs n hm
  rw[←Int.natCast_emod]at this
  exact Int.ofNat.inj this
 rw[h,←gcd_mod]
theorem Gcd_l2 (l:List S25) (x24 x25:Int):∀(g u v:Nat) (x6 x9:List Int),v≤g→Rep 18446744073709551616 (u:Int) x6→Rep 18446744073709551616 (v:Int) x9→x6.length≤8388600→x9.length≤8388600 →
  ∃r,Rep 18446744073709551616 ((Nat.gcd u v:Nat):Int) r∧∀z,Ev (fun k=>whole_Gcd.l1 k r l x24 (wrap64 (x25+1))) z→Ev (fun k=>whole_Gcd.l2 k x6 x9 l x24 x25) z:=by
 intro g
 induction g with
 | zero=>
  intro u v x6 x9 hv h1 h2 l1 l2
  obtain rfl:v=0:=by omega
  have e:x9=[]:=(h2.nil_iff J0).2 rfl
  subst e
  refine⟨x6,by rw[Nat.gcd_zero_right];exact h1,fun z hz=>Ev.step' 0 hz fun k _=>?_⟩
  rw[whole_Gcd.l2,null_eq,Option.bind_some,if_pos Z1]
 | succ g ih=>
  intro u v x6 x9 hv h1 h2 l1 l2
  by_cases h0:v=0
  ·subst h0
   have e:x9=[]:=(h2.nil_iff J0).2 rfl
   subst e
   refine⟨x6,by rw[Nat.gcd_zero_right];exact h1,fun z hz=>Ev.step' 0 hz fun k _=>?_⟩
   rw[whole_Gcd.l2,null_eq,Option.bind_some,if_pos Z1]
  obtain⟨q,r,⟨K,hK⟩,hq,hr⟩:=quo_ev h1 h2 Z0 l1 l2
  have hlt:=Nat.mod_lt u (show 0<v by omega)
  rw[←Int.natCast_emod]at hr
  have lr:=rep_len J0 hr (Int.lt_of_le_of_lt (show((u%v:Nat):Int)≤(v:Int) by omega) (h2.lt J0))
  have hne:¬decide (x9=[])=true:=by
   have:=h2.nil_iff J0
   simp[this,h0]
  obtain⟨s,hs,hz'⟩:=ih v (u%v) x9 r Z0 h2 hr l2 Z0
  refine⟨s,by rw[gcd_mod];exact hs,fun z hz=>Ev.step' K (hz' z hz) fun k hk=>?_⟩
  have e:whole_amount_quo.f k x6 x9=_:=hK k hk
  rw[whole_Gcd.l2,null_eq,Option.bind_some,if_neg hne,e,Option.bind_some]
theorem Gcd_s0 (k:Nat) (l:List S25) (i:Nat) (a1:List Int) (s1:Bool) (hi:i<l.length) (hl:l.length≤1048576) (h1:whole_of.f k l[i].f0 l[i].f1=some (a1,s1)) (h2:a1.length≤4096) :
  whole_Gcd.l0 (k+1) l l (l.length:Int) (i:Int)=whole_Gcd.l0 k l l (l.length:Int) ((i+1:Nat):Int):=by
 have hwr:wrap64 ((i:Int)+1)=((i+1:Nat):Int):=by rw[w64 _ Z0];omega
 rw[whole_Gcd.l0,if_pos Z0,if_pos Z0,if_pos Z0,rd_T25_nat'' l i hi,h1,Option.bind_some,long_eq,Option.bind_some,if_neg (by simpa using by omega),hwr]
theorem Gcd_e0 (k:Nat) (l:List S25):whole_Gcd.l0 (k+1) l l (l.length:Int) (l.length:Int)=whole_Gcd.l1 k [] l (l.length:Int) 0:=by
 rw[whole_Gcd.l0,if_neg Z0]
theorem Gcd_s1 (k:Nat) (l:List S25) (i:Nat) (x6 a1:List Int) (s1:Bool) (hi:i<l.length) (hl:l.length≤1048576) (h1:whole_of.f k l[i].f0 l[i].f1=some (a1,s1)) :
  whole_Gcd.l1 (k+1) x6 l (l.length:Int) (i:Int)=whole_Gcd.l2 k x6 a1 l (l.length:Int) (i:Int):=by
 rw[whole_Gcd.l1,if_pos Z0,if_pos Z0,if_pos Z0,rd_T25_nat'' l i hi,h1,Option.bind_some]
theorem Gcd_e1 (k:Nat) (l:List S25) (r:List Int) (hr:r.length≤4096):whole_Gcd.l1 (k+1) r l (l.length:Int) (l.length:Int)=some (false,r,0):=by
 rw[whole_Gcd.l1,if_neg Z0,signed_eq,Option.bind_some,Bool.false_and,told_ok false hr,Option.bind_some]
theorem Gcd_two {n m:Int} {s t:Bool} {l p:List Int} {L:Nat} (hL:L≤4096) (h:AN L n s l) (g:AN L m t p):∃r,Ev (fun k=>whole_Gcd.f k [⟨s,l⟩,⟨t,p⟩]) (false,r,0)∧Num 18446744073709551616 ((Nat.gcd n.natAbs m.natAbs:Nat):Int) false r:=by
 obtain⟨a,s1,⟨K1,e1⟩,N1,l1⟩:=h
 obtain⟨b,s2,⟨K2,e2⟩,N2,l2⟩:=g
 obtain⟨r1,hr1,c1⟩:=Gcd_l2 [⟨s,l⟩,⟨t,p⟩] 2 0 n.natAbs 0 n.natAbs [] a (Nat.le_refl _) (nil_num' _).rep N1.rep Z1 Z0
 rw[Nat.gcd_zero_left]at hr1
 obtain rfl:=hr1.uniq J0 N1.rep
 obtain⟨r,hr,c2⟩:=Gcd_l2 [⟨s,l⟩,⟨t,p⟩] 2 1 m.natAbs n.natAbs m.natAbs r1 b (Nat.le_refl _) N1.rep N2.rep Z0 Z0
 rw[show wrap64 ((0:Int)+1)=1 from(w64 _ Z0).trans rfl]at c1
 rw[show wrap64 ((1:Int)+1)=2 from(w64 _ Z0).trans rfl]at c2
 have lr:r.length≤4096:=by
  by_cases hn:n.natAbs=0
  ·rw[hn,Nat.gcd_zero_left]at hr
   rw[hr.uniq J0 N2.rep];omega
  have h1:=Nat.gcd_le_left m.natAbs (show 0<n.natAbs by omega)
  have:=rep_len J0 hr (Int.lt_of_le_of_lt (show _≤(n.natAbs:Int) by omega) (N1.rep.lt J0))
  omega
 have z2:Ev (fun k=>whole_Gcd.l1 k r [⟨s,l⟩,⟨t,p⟩] 2 2) (false,r,0):=Ev.step' (f:=fun _=>some (false,r,0)) 0 ⟨0,fun _ _=>rfl⟩ fun k _=>Gcd_e1 k [⟨s,l⟩,⟨t,p⟩] r lr
 have z0:Ev (fun k=>whole_Gcd.l1 k r1 [⟨s,l⟩,⟨t,p⟩] 2 1) (false,r,0):=Ev.step' K2 (c2 _ z2) fun k hk=>Gcd_s1 k [⟨s,l⟩,⟨t,p⟩] 1 r1 b s2 Z1 Z1 (e2 k hk)
 have y1:Ev (fun k=>whole_Gcd.l1 k [] [⟨s,l⟩,⟨t,p⟩] 2 0) (false,r,0):=Ev.step' K1 (c1 _ z0) fun k hk=>Gcd_s1 k [⟨s,l⟩,⟨t,p⟩] 0 [] r1 s1 Z1 Z1 (e1 k hk)
 have y0:Ev (fun k=>whole_Gcd.l0 k [⟨s,l⟩,⟨t,p⟩] [⟨s,l⟩,⟨t,p⟩] 2 2) (false,r,0):=Ev.step' 0 y1 fun k _=>Gcd_e0 k [⟨s,l⟩,⟨t,p⟩]
 have x1:Ev (fun k=>whole_Gcd.l0 k [⟨s,l⟩,⟨t,p⟩] [⟨s,l⟩,⟨t,p⟩] 2 1) (false,r,0):=Ev.step' K2 y0 fun k hk=>Gcd_s0 k [⟨s,l⟩,⟨t,p⟩] 1 b s2 Z1 Z1 (e2 k hk) Z0
 have x0:Ev (fun k=>whole_Gcd.l0 k [⟨s,l⟩,⟨t,p⟩] [⟨s,l⟩,⟨t,p⟩] 2 0) (false,r,0):=Ev.step' K1 x1 fun k hk=>Gcd_s0 k [⟨s,l⟩,⟨t,p⟩] 0 r1 s1 Z1 Z1 (e1 k hk) Z0
 exact⟨r,x0,⟨by rw[Int.natAbs_natCast];exact hr,Z1⟩⟩
theorem natTrim_eq:∀(k:Nat) (x:List Int) (n:Int),nat_trim.l0 k x n=whole_trimmed.l0 k x n
 | 0,_,_=>rfl
 | k+1,x,n=>by rw[nat_trim.l0,whole_trimmed.l0,natTrim_eq k]
theorem natTrim_f (k:Nat) (l:List Int):nat_trim.f k l=whole_trimmed.f k l:=natTrim_eq k l _
theorem bitLen_pos {x:Nat} (h:x≠0) (hx:x<18446744073709551616):1≤Lib.bitLen x:=by
 rw[Lib.bitLen_half x h hx];omega
theorem bitLenAux_le:∀(f x:Nat),Lib.bitLenAux f x≤f
 | 0,_=>by simp[Lib.bitLenAux]
 | f+1,x=>by
  have:=bitLenAux_le f (x/2)
  unfold Lib.bitLenAux
  split<;>omega
theorem top_get {a:List Int} (ht:Top a) (h0:0<a.length):a[a.length-1]≠0:=by
 have h:=(Top_iff a).1 ht (List.length_pos_iff.1 h0)
 rwa [List.getLast_eq_getElem]at h
theorem limbs (l:List Int) (hl:l.length≤1048576) (hd:Dig 18446744073709551616 l) :
  ∃a N,(∀s,Ev (fun k=>whole_of.f k s l) (a,s&&decide (0<a.length)))∧Ev (fun k=>nat_Len.f k l) N∧Rep 18446744073709551616 (val 18446744073709551616 l) a∧a.length≤l.length∧(N=0↔a=[])∧(N>65536↔1024<a.length):=by
 obtain⟨m,hm,he,ht,hv⟩:=whole_trimmed_l0 l Z0 l.length (l.length+1) (Nat.le_refl _) Z0
 obtain⟨K,hr⟩:=Ev.of (fun k=>whole_trimmed.mono l k) he
 have R:Rep 18446744073709551616 (val 18446744073709551616 l) (l.take m):=⟨hd.take m,ht,by rw[hv,List.take_length]⟩
 have hlen:(l.take m).length≤l.length:=by rw[List.length_take];omega
 refine⟨l.take m,if l.take m=[] then 0 else 64*((l.take m).length-1:Int)+Lib.bitLen ((l.take m).getD ((l.take m).length-1) 0).toNat,fun s=>⟨K,fun k hk=>?_⟩,⟨K,fun k hk=>?_⟩,R,hlen,?_,?_⟩
 ·simp only[whole_of.f,hr k hk,Option.bind_some]
  cases s
  ·simp
  simp only[whole_amount_null.f,Option.bind_some,if_true]
  congr 2
  cases h:l.take m<;>simp<;>omega
 all_goals generalize hA:l.take m=a at *
 ·show nat_Len.f k l=_
  have hr':whole_trimmed.f k l=_:=hr k hk
  rw[nat_Len.f,natTrim_f,hr',Option.bind_some]
  by_cases h0:a=[]
  ·subst h0;simp
  have hp:=List.length_pos_iff.2 h0
  have hw:wrap64 ((a.length:Int)-1)=((a.length-1:Nat):Int):=by rw[w64 _ Z0];omega
  have hg:=R.dig.get (a.length-1) Z0
  rw[if_neg Z0,hw,if_pos Z0,if_pos Z0,if_neg h0]
  have e:rd a ((a.length-1:Nat):Int)=a[a.length-1]:=by
   unfold rd
   rw[Int.toNat_natCast,List.getD_eq_getElem?_getD,List.getElem?_eq_getElem Z0];rfl
  have e2:a.getD (a.length-1) 0=a[a.length-1]:=by
   rw[List.getD_eq_getElem?_getD,List.getElem?_eq_getElem Z0];rfl
  rw[e,e2,bits_Len64.f,if_pos ⟨hg.1,Z0⟩,Option.bind_some]
  have hb:=bitLenAux_le 64 a[a.length-1].toNat
  have hb':Lib.bitLen a[a.length-1].toNat≤64:=hb
  rw[w64 (64*((a.length-1:Nat):Int)) Z0,w64 _ Z0]
  congr 1
  omega
 ·by_cases h0:a=[]
  ·simp[h0]
  have hp:=List.length_pos_iff.2 h0
  rw[if_neg h0]
  have hg:=R.dig.get (a.length-1) Z0
  have e2:a.getD (a.length-1) 0=a[a.length-1]:=by
   rw[List.getD_eq_getElem?_getD,List.getElem?_eq_getElem Z0];rfl
  have ht0:=top_get ht hp
  have:=bitLen_pos (x:=a[a.length-1].toNat) Z0 Z0
  rw[e2]
  constructor
  ·intro h;omega
  intro h;exact absurd h h0
 by_cases h0:a=[]
 ·subst h0;simp
 have hp:=List.length_pos_iff.2 h0
 rw[if_neg h0]
 have hg:=R.dig.get (a.length-1) Z0
 have e2:a.getD (a.length-1) 0=a[a.length-1]:=by
  rw[List.getD_eq_getElem?_getD,List.getElem?_eq_getElem Z0];rfl
 have ht0:=top_get ht hp
 have h1:=bitLen_pos (x:=a[a.length-1].toNat) Z0 Z0
 have h2:Lib.bitLen a[a.length-1].toNat≤64:=bitLenAux_le 64 a[a.length-1].toNat
 rw[e2]
 omega
theorem rat_low (n:Int) (d:Nat) (hd:d≠0):(mkRat n d).num=qn n ((Nat.gcd n.natAbs d:Nat):Int)∧((mkRat n d).den:Int)=qn (d:Int) ((Nat.gcd n.natAbs d:Nat):Int):=by
 have hg:Nat.gcd n.natAbs d≠0:=fun h=>hd (Nat.gcd_eq_zero_iff.1 h).2
 rw[←Rat.normalize_eq_mkRat hd,Rat.num_normalize,Rat.den_normalize]
 generalize hG:Nat.gcd n.natAbs d=g at *
 have h1:g ∣ n.natAbs:=hG ▸ Nat.gcd_dvd_left _ _
 constructor
 ·show n/(g:Int)=_
  unfold qn
  rw[show decide ((g:Int)<0)=false from decide_eq_false Z0,Int.natAbs_natCast]
  rcases Int.lt_or_le n 0 with h|h
  ·rw[decide_eq_true h,if_pos J0]
   obtain⟨c,hc⟩:=h1
   have:n = -((g:Int)*(c:Int)):=by rw[←Int.natCast_mul,←hc];omega
   rw[this,Int.natAbs_neg,Int.natAbs_mul,Int.natAbs_natCast,Int.natAbs_natCast,←Int.mul_neg,Int.mul_ediv_cancel_left _ Z0,Int.natCast_mul,Int.mul_ediv_cancel_left _ Z0]
  rw[decide_eq_false Z0,if_neg J0,show((n.natAbs:Nat):Int)=n from by omega]
 show(((d/g:Nat)):Int)=_
 unfold qn
 rw[decide_eq_false Z0,decide_eq_false Z0,if_neg J0,Int.natAbs_natCast,Int.natAbs_natCast,Int.natCast_ediv]
theorem rat_den_pos (r:Rat):(0:Int)<(r.den:Int):=by have:=r.den_nz;omega
def B1024:Int:=18446744073709551616^1024
def Lg (r:Rat):Bool:=decide (B1024≤(r.num.natAbs:Int)) || decide (B1024≤(r.den:Int))
def FA (L:Nat) (r:Rat) (s:Bool) (l:List Int) (t:Bool) (p:List Int):Prop:=∃(n:Int) (d:Nat),AN L n s l∧AN L (d:Int) t p∧d≠0∧r=mkRat n d
structure FQ (L:Nat) (r:Rat) (s:Bool) (l:List Int) (t:Bool) (p:List Int):Prop where
 n:Num 18446744073709551616 r.num s l
 d:Num 18446744073709551616 (r.den:Int) t p
 ln:l.length≤L
 ld:p.length≤L
theorem FQ.a {L:Nat} {r:Rat} {s t:Bool} {l p:List Int} (h:FQ L r s l t p) (hL:L≤1048576):FA L r s l t p:=
 ⟨r.num,r.den,AN.of h.n h.ln hL,AN.of h.d h.ld hL,r.den_nz,(Rat.mkRat_self r).symm⟩
theorem FA.up {L L':Nat} {r:Rat} {s t:Bool} {l p:List Int} (h:FA L r s l t p) (hL:L≤L'):FA L' r s l t p:=by
 obtain⟨n,d,a,b,c,e⟩:=h
 exact⟨n,d,a.up hL,b.up hL,c,e⟩
theorem FQ.t {L:Nat} {r:Rat} {s t:Bool} {l p:List Int} (h:FQ L r s l t p):t=false:=by
 rw[h.d.sign];exact decide_eq_false Z0
theorem FQ.uniq {L L':Nat} {r:Rat} {s t u v:Bool} {l p x y:List Int} (h:FQ L r s l t p) (g:FQ L' r u x v y):s=u∧l=x∧t=v∧p=y:=by
 obtain⟨a,b⟩:=g.n.uniq J0 h.n
 obtain⟨c,d⟩:=g.d.uniq J0 h.d
 exact⟨a,b,c,d⟩
theorem len_iff {n:Int} {s:Bool} {l:List Int} (h:Num 18446744073709551616 n s l) (m:Nat):l.length≤m↔(n.natAbs:Int)<18446744073709551616^m:=by
 constructor
 ·intro hl
  exact Int.lt_of_lt_of_le (h.rep.lt J0) (pow_le_pow J0 hl)
 intro hv
 exact rep_len J0 h.rep hv
theorem len_big {n:Int} {s:Bool} {l:List Int} (h:Num 18446744073709551616 n s l):l.length≤1024↔(n.natAbs:Int)<B1024:=len_iff h 1024
theorem long_num {n:Int} {s:Bool} {l:List Int} (h:Num 18446744073709551616 n s l) (hl:l.length≤1048576) (t:Bool):Ev (fun k=>ratio_number_long.f k t l) (decide (B1024≤(n.natAbs:Int))):=by
 obtain⟨a,N,_,⟨K,e⟩,R,_,_,h2⟩:=limbs l hl h.rep.dig
 obtain rfl:a=l:=by
  rw[h.rep.val]at R
  exact R.uniq J0 h.rep
 refine⟨K,fun k hk=>?_⟩
 show ratio_number_long.f k t a=_
 have e':nat_Len.f k a=_:=e k hk
 rw[ratio_number_long.f,e',Option.bind_some]
 refine congrArg some (decide_eq_decide.2 ?_)
 rw[h2]
 have:=len_big h
 omega
section
variable {L:Nat} {r q:Rat} {s t u v:Bool} {l p x y:List Int}
theorem fr_low_ev (h:FA L r s l t p) (hL:L≤4000):∃a b c d,Ev (fun k=>ratio_fraction_low.f k s l t p) (a,b,c,d)∧FQ L r a b c d:=by
 obtain⟨n,m,A,D,hm,rfl⟩:=h
 obtain⟨g,⟨K1,e1⟩,G⟩:=Gcd_two Z0 A D
 rw[Int.natAbs_natCast]at G
 have hg:Nat.gcd n.natAbs m≠0:=fun h=>hm (Nat.gcd_eq_zero_iff.1 h).2
 have lg:g.length≤L:=by
  obtain⟨a,s2,_,N2,l2⟩:=D
  have h1:=Nat.gcd_le_right n.natAbs (show 0<m by omega)
  have:=len_small J0 N2 G Z0
  omega
 have GA:=AN.of G lg Z0
 obtain⟨a,b,_,_,⟨K2,e2⟩,Q1,_,l1,_⟩:=A.quo GA Z0 hL hL
 obtain⟨c,d,_,_,⟨K3,e3⟩,Q2,_,l2,_⟩:=D.quo GA Z0 hL hL
 obtain⟨i1,i2⟩:=rat_low n m hm
 rw[←i1]at Q1
 rw[←i2]at Q2
 refine⟨a,b,c,d,⟨K1+K2+K3,fun k hk=>?_⟩,⟨Q1,Q2,l1,l2⟩⟩
 have g1:whole_Gcd.f k [⟨s,l⟩,⟨t,p⟩]=_:=e1 k Z0
 have g2:whole_Quo.f k s l false g=_:=e2 k Z0
 have g3:whole_Quo.f k t p false g=_:=e3 k Z0
 show ratio_fraction_low.f k s l t p=_
 rw[ratio_fraction_low.f,g1,Option.bind_some,g2,Option.bind_some,g3,Option.bind_some]
theorem fr_out_ev (h:FA L r s l t p) (hL:L≤4000):∃a b c d,Ev (fun k=>ratio_fraction_out.f k s l t p) (if Lg r then(false,[],[],5) else(a,b,d,0))∧FQ L r a b c d:=by
 obtain⟨a,b,c,d,⟨K1,e1⟩,Q⟩:=fr_low_ev h hL
 obtain⟨K2,e2⟩:=long_num Q.n (by have:=Q.ln;omega) a
 obtain⟨K3,e3⟩:=long_num Q.d (by have:=Q.ld;omega) c
 refine⟨a,b,c,d,⟨K1+K2+K3,fun k hk=>?_⟩,Q⟩
 have g1:ratio_fraction_low.f k s l t p=_:=e1 k Z0
 have g2:ratio_number_long.f k a b=_:=e2 k Z0
 have g3:ratio_number_long.f k c d=_:=e3 k Z0
 rw[Int.natAbs_natCast]at g3
 show ratio_fraction_out.f k s l t p=_
 rw[ratio_fraction_out.f,g1,Option.bind_some,g2,Option.bind_some]
 unfold Lg
 by_cases h1:B1024≤(r.num.natAbs:Int)
 ·rw[decide_eq_true h1,if_pos rfl,Bool.true_or,if_pos rfl]
 rw[decide_eq_false h1,if_neg J0,g3,Option.bind_some,Bool.false_or]
 split<;>rfl
end
structure Arg (c:Int) (r:Rat) (s:Bool) (l p:List Int):Prop where
 made:Ev (fun k=>ratio_made.f k s l p) (if c=0 then(s,l,false,p,0) else(false,[],false,[],c))
 len:∃N,Ev (fun k=>nat_Len.f k p) N∧(N=0↔c=11)
 is:c=0∨c=5∨c=11
 fr:c=0→FA 1024 r s l false p
theorem len4' {n:Int} {s u:Bool} {a d:List Int} (h:Num 18446744073709551616 n s a) (g:Num 65536 n u d) (hd:d.length≤8388608):d.length≤4*a.length∧4*a.length<d.length+4:=by
 obtain⟨r,_,h1,h2,h3,h4,h5⟩:=To_ev d u hd g.rep.dig g.rep.top
 obtain rfl:=h.rep.uniq J0 (⟨h1,h2,h3.trans g.rep.val⟩:Rep 18446744073709551616 _ r)
 exact⟨h4,h5⟩
theorem abs_num {n:Int} {s:Bool} {l:List Int} (h:Num 65536 n s l) (hl:l.length≤8388608):∃r,Ev (fun k=>tribunalref02_Make.f k false l) (false,r)∧Num 65536 (n.natAbs:Int) false r∧r=l:=by
 obtain⟨u,r,E,N⟩:=rMake_rep h.rep hl false (n:=(n.natAbs:Int)) rfl
 obtain rfl:u=false:=by rw[N.sign];exact decide_eq_false Z0
 refine⟨r,E,N,?_⟩
 have:=N.rep
 rw[Int.natAbs_natCast]at this
 exact this.uniq J0 h.rep
theorem Qgcd_ev:∀(g:Nat) (n m:Int) (s t:Bool) (a b:List Int),m.natAbs≤g→Num 65536 n s a→Num 65536 m t b→a.length≤8388590→b.length≤8388590 →
  ∃r,Ev (fun k=>tribunalref03_gcd.l0 k s a t b) (false,r)∧Num 65536 ((Nat.gcd n.natAbs m.natAbs:Nat):Int) false r∧r.length≤8388590:=by
 intro g
 induction g with
 | zero=>
  intro n m s t a b hg ha hb la lb
  obtain rfl:m=0:=by omega
  obtain rfl:=(num_nil J0 hb).2 rfl
  obtain⟨r,⟨K,e⟩,N,rfl⟩:=abs_num ha Z0
  refine⟨r,⟨K+1,fun k hk=>?_⟩,by simpa using N,la⟩
  obtain⟨k,rfl⟩:∃j,k=j+1:=⟨k-1,Z0⟩
  have g1:tribunalref02_Make.f k false r=_:=e k Z0
  show tribunalref03_gcd.l0 (k+1) s r t []=_
  rw[tribunalref03_gcd.l0,if_neg Z1,g1,Option.bind_some]
 | succ g ih=>
  intro n m s t a b hg ha hb la lb
  by_cases hm:m=0
  ·subst hm
   obtain rfl:=(num_nil J0 hb).2 rfl
   obtain⟨r,⟨K,e⟩,N,rfl⟩:=abs_num ha Z0
   refine⟨r,⟨K+1,fun k hk=>?_⟩,by simpa using N,la⟩
   obtain⟨k,rfl⟩:∃j,k=j+1:=⟨k-1,Z0⟩
   have g1:tribunalref02_Make.f k false r=_:=e k Z0
   show tribunalref03_gcd.l0 (k+1) s r t []=_
   rw[tribunalref03_gcd.l0,if_neg Z1,g1,Option.bind_some]
  have hbl:(b.length:Int)>0:=by
   have:b≠[]:=fun h=>hm ((num_nil J0 hb).1 h)
   have:=List.length_pos_iff.2 this
   omega
  obtain⟨u,q,v,r,⟨K1,e1⟩,N1,N2,lq,lr⟩:=Cut_num ha hb hm la lb
  obtain⟨r',⟨K2,e2⟩,N3,rfl⟩:=abs_num N2 Z0
  have hlt:=rn_lt n hm
  obtain⟨x,⟨K3,e3⟩,N4,lx⟩:=ih m ((rn n m).natAbs:Int) t false b r' Z0 hb N3 lb Z0
  refine⟨x,⟨K1+K2+K3+1,fun k hk=>?_⟩,?_,lx⟩
  ·obtain⟨k,rfl⟩:∃j,k=j+1:=⟨k-1,Z0⟩
   have g1:tribunalref02_Cut.f k s a t b=_:=e1 k Z0
   have g2:tribunalref02_Make.f k false r'=_:=e2 k Z0
   have g3:tribunalref03_gcd.l0 k t b false r'=_:=e3 k Z0
   show tribunalref03_gcd.l0 (k+1) s a t b=_
   rw[tribunalref03_gcd.l0,if_pos hbl,g1,Option.bind_some,g2,Option.bind_some,g3]
  rw[gcd_rn n hm]
  rwa [Int.natAbs_natCast]at N4
theorem Qlow_ev {n:Int} {d:Nat} {s:Bool} {a b:List Int} (ha:Num 65536 n s a) (hb:Num 65536 (d:Int) false b) (hd:d≠0) (la:a.length≤4096) (lb:b.length≤4096) :
  ∃u q t,Ev (fun k=>tribunalref03_Low.f k s a false b) (u,q,false,t)∧Num 65536 (mkRat n d).num u q∧Num 65536 ((mkRat n d).den:Int) false t∧q.length≤4096∧t.length≤4096:=by
 obtain⟨g,⟨K1,e1⟩,N1,lg⟩:=Qgcd_ev d n d s false a b Z0 ha hb Z0 Z0
 rw[Int.natAbs_natCast]at N1
 have hg:Nat.gcd n.natAbs d≠0:=fun h=>hd (Nat.gcd_eq_zero_iff.1 h).2
 obtain⟨u,q,_,_,⟨K2,e2⟩,N2,_,l2,_⟩:=Cut_num ha N1 Z0 Z0 lg
 obtain⟨v,t,_,_,⟨K3,e3⟩,N3,_,l3,_⟩:=Cut_num hb N1 Z0 Z0 lg
 obtain⟨h1,h2⟩:=rat_low n d hd
 rw[←h1]at N2
 rw[←h2]at N3
 obtain rfl:v=false:=by rw[N3.sign];exact decide_eq_false Z0
 refine⟨u,q,t,⟨K1+K2+K3,fun k hk=>?_⟩,N2,N3,Z0,Z0⟩
 have g1:tribunalref03_gcd.l0 k s a false b=_:=e1 k Z0
 have g2:tribunalref02_Cut.f k s a false g=_:=e2 k Z0
 have g3:tribunalref02_Cut.f k false b false g=_:=e3 k Z0
 show tribunalref03_Low.f k s a false b=_
 rw[tribunalref03_Low.f,tribunalref03_gcd.f,g1,Option.bind_some,g2,Option.bind_some,g3,Option.bind_some,if_neg J0]
theorem to_num {n:Int} {t:Bool} {d:List Int} (g:Num 65536 n t d) (hd:d.length≤8388608):∃l,Ev (fun k=>tribunalref02_To.f k t d) (t,l)∧Num 18446744073709551616 n t l∧4*l.length<d.length+4:=by
 obtain⟨r,E,h1,h2,h3,_,h5⟩:=To_ev d t hd g.rep.dig g.rep.top
 exact⟨r,E,⟨⟨h1,h2,h3.trans g.rep.val⟩,g.sign⟩,h5⟩
def dv (a:Nat) (l:List UInt8):Nat:=l.foldl (fun a c=>a*10+(c.toNat-48)) a
theorem dv_nil (a:Nat):dv a []=a:=rfl
theorem dv_cons (a:Nat) (c:UInt8) (r:List UInt8):dv a (c::r)=dv (a*10+(c.toNat-48)) r:=by
 unfold dv
 rw[List.foldl_cons]
def isD (c:UInt8):Prop:=48≤c.toNat∧c.toNat≤57
instance (c:UInt8):Decidable (isD c):=inferInstanceAs (Decidable (_∧_))
theorem dv_app (x y:List UInt8) (a:Nat):dv a (x++y)=dv (dv a x) y:=by
 unfold dv
 rw[List.foldl_append]
theorem dv_lin:∀(l:List UInt8) (a:Nat),dv a l=a*10^l.length+dv 0 l
 | [],a=>by rw[dv_nil,dv_nil];simp
 | c::r,a=>by
  rw[dv_cons,dv_lin r,dv_cons,dv_lin r (0*10+_),List.length_cons,Nat.pow_succ,Nat.zero_mul,Nat.zero_add,Nat.add_mul,Nat.mul_assoc,Nat.mul_comm 10,Nat.add_assoc]
theorem dv_lt:∀(l:List UInt8),(∀c∈l,isD c)→dv 0 l<10^l.length
 | [],_=>by rw[dv_nil];simp
 | c::r,h=>by
  have h1:=dv_lt r (fun x hx=>h x (List.mem_cons_of_mem _ hx))
  have h2:=h c List.mem_cons_self
  have h3:c.toNat-48≤9:=by have:=h2.2;omega
  rw[dv_cons,dv_lin,List.length_cons,Nat.pow_succ,Nat.zero_mul,Nat.zero_add]
  have:=Nat.mul_le_mul_right (10^r.length) h3
  omega
theorem dv_zeros:∀(l:List UInt8),dv 0 (l.dropWhile ([48].contains ·))=dv 0 l
 | []=>rfl
 | c::r=>by
  by_cases h:c=48
  ·subst h
   rw[List.dropWhile_cons_of_pos J0,dv_zeros r,dv_cons];rfl
  rw[List.dropWhile_cons_of_neg (by simpa using h)]
theorem parse_dv:∀(l:List UInt8) (a:Nat),(∀c∈l,isD c)→(a+1)*10^l.length≤10^18→Lib.parseUint10 a l=.ok (dv a l)
 | [],a,_,_=>rfl
 | c::r,a,h,hl=>by
  have h2:=h c List.mem_cons_self
  have h3:c.toNat-48≤9:=by have:=h2.2;omega
  rw[List.length_cons,Nat.pow_succ]at hl
  have hp:1≤10^r.length:=Nat.pow_pos J0
  have h4:(a*10+(c.toNat-48)+1)*10^r.length≤10^18:=by
   refine Nat.le_trans (Nat.mul_le_mul_right _ (show a*10+(c.toNat-48)+1≤(a+1)*10 by omega)) ?_
   rw[Nat.mul_assoc,Nat.mul_comm 10]
   exact hl
  have h5:(a*10+(c.toNat-48)+1)≤10^18:=Nat.le_trans (Nat.le_mul_of_pos_right _ hp) h4
  have h6:(10:Nat)^18=1000000000000000000:=by decide
  rw[Lib.parseUint10,if_pos (show 48≤c.toNat∧c.toNat≤57 from h2),if_neg Z0,if_neg Z0,parse_dv r _ (fun x hx=>h x (List.mem_cons_of_mem _ hx)) h4,dv_cons]
theorem isD_mem (c:UInt8):isD c↔([48,49,50,51,52,53,54,55,56,57]:List UInt8).contains c=true:=by
 have h:∀n:Fin 256,(48≤n.val∧n.val≤57)↔([48,49,50,51,52,53,54,55,56,57]:List UInt8).contains (UInt8.ofNat n.val)=true:=by decide +kernel
 have:=h ⟨c.toNat,c.toNat_lt⟩
 simpa [isD] using this
theorem dropWhile_nil {p:UInt8→Bool}:∀ {l:List UInt8},l.dropWhile p=[]↔∀c∈l,p c=true
 | []=>by simp
 | c::r=>by
  by_cases h:p c=true
  ·rw[List.dropWhile_cons_of_pos h,dropWhile_nil]
   simp[h]
  rw[List.dropWhile_cons_of_neg h]
  simp[h]
theorem trim_nil (l:List UInt8):Lib.trimS l [48,49,50,51,52,53,54,55,56,57]=[]↔∀c∈l,isD c:=by
 unfold Lib.trimS Lib.trimLeftS Lib.trimRightS
 rw[dropWhile_nil]
 constructor
 ·intro h
  have h2:(l.reverse.dropWhile (([48,49,50,51,52,53,54,55,56,57]:List UInt8).contains ·))=[]:=by
   rcases hd:l.reverse.dropWhile (([48,49,50,51,52,53,54,55,56,57]:List UInt8).contains ·) with _|⟨c,r⟩
   ·rfl
   exfalso
   have h1:=h c (by rw[hd];simp)
   have h3:=List.head_dropWhile_not (([48,49,50,51,52,53,54,55,56,57]:List UInt8).contains ·) (l:=l.reverse) (by rw[hd];simp)
   simp only[hd,List.head_cons]at h3
   rw[h1]at h3
   cases h3
  rw[dropWhile_nil]at h2
  exact fun c hc=>(isD_mem c).2 (h2 c (List.mem_reverse.2 hc))
 intro h c hc
 rw[List.mem_reverse]at hc
 exact(isD_mem c).1 (h c (List.mem_reverse.1 (List.dropWhile_subset _ hc)))
def ba (l:List UInt8):ByteArray:=⟨l.toArray⟩
theorem ba_of (s:ByteArray):ba s.data.toList=s:=by cases s;simp[ba]
theorem ba_size (l:List UInt8):(ba l).size=l.length:=by show l.toArray.size=_;simp
theorem ba_data (l:List UInt8):(ba l).data.toList=l:=rfl
theorem ba_toList (l:List UInt8):(ba l).toList=l:=by rw[Lib.toList_data];rfl
theorem ba_extract (l:List UInt8) (a b:Nat):(ba l).extract a b=ba ((l.drop a).take (b-a)):=by
 have h:=Lib.extract_toList (ba l) a b
 rw[Lib.toList_data]at h
 rw[←ba_of ((ba l).extract a b),h];rfl
theorem bt_ba (l:List UInt8) (i:Nat) (hi:i<l.length):bt (ba l) (i:Int)=(l[i].toNat:Int):=by
 unfold bt
 rw[dif_pos (by rw[ba_size,Int.toNat_natCast];exact hi)]
 rfl
theorem dv_snoc (l:List UInt8) (i:Nat) (hi:i<l.length):dv 0 (l.take (i+1))=dv 0 (l.take i)*10+(l[i].toNat-48):=by
 rw[List.take_succ_eq_append_getElem hi,dv_app,dv_cons,dv_nil]
theorem ten_le (i:Nat):(10:Nat)^i≤65536^i:=Nat.pow_le_pow_left J0 i
theorem dv_len {l:List UInt8} (h:∀c∈l,isD c) {s:Bool} {d:List Int} (N:Num 65536 ((dv 0 l:Nat):Int) s d):d.length≤l.length:=by
 refine rep_len J0 N.rep ?_
 have h1:=dv_lt l h
 have h2:=ten_le l.length
 rw[Int.natAbs_natCast]
 have:((dv 0 l:Nat):Int)<((65536^l.length:Nat):Int):=by exact_mod_cast Nat.lt_of_lt_of_le h1 h2
 simpa using this
theorem pow_up {B:Int} (hB:1≤B) {a b:Nat} (h:a≤b):B^a≤B^b:=by
 obtain⟨c,rfl⟩:=Nat.exists_eq_add_of_le h
 rw[Int.pow_add]
 have h1:=pow_pos (B:=B) Z0 a
 have h2:=pow_pos (B:=B) Z0 c
 have:=Int.mul_le_mul_of_nonneg_left (show(1:Int)≤B^c by omega) (Int.le_of_lt h1)
 omega
theorem Read_ok (l:List UInt8) (hl:l.length≤1000000) (hd:∀c∈l,isD c):∀(n i:Nat),i+n=l.length→∀k,tribunalref02_Read.l0 (k+n+1) (ba l) (i:Int) false=tribunalref02_Read.l1 k (ba l) 0 false []:=by
 intro n
 induction n with
 | zero=>
  intro i hi k
  rw[tribunalref02_Read.l0,if_neg D5]
 | succ n ih=>
  intro i hi k
  have hlt:i<l.length:=by omega
  have hc:=hd l[i] (List.getElem_mem hlt)
  rw[show k+(n+1)+1=(k+n+1)+1 from by omega,tribunalref02_Read.l0,if_pos D5,if_pos Z0,bt_ba l i hlt,if_neg (by have:=hc.1;omega),if_neg (by have:=hc.2;omega),w64 _ Z0]
  exact ih (i+1) Z0 k
theorem Read_bad (l:List UInt8) (hl:l.length≤1000000):∀(n i:Nat),i+n=l.length→¬(∀c∈l.drop i,isD c)→∀k,n<k→tribunalref02_Read.l0 k (ba l) (i:Int) false=some (false,[],false):=by
 intro n
 induction n with
 | zero=>
  intro i hi h
  exact absurd (fun c hc=>by rw[List.drop_eq_nil_of_le Z0]at hc;cases hc) h
 | succ n ih=>
  intro i hi h k hk
  obtain⟨k,rfl⟩:∃j,k=j+1:=⟨k-1,Z0⟩
  have hlt:i<l.length:=by omega
  rw[tribunalref02_Read.l0,if_pos D5,if_pos Z0,bt_ba l i hlt]
  by_cases hc:isD l[i]
  ·rw[if_neg (by have:=hc.1;omega),if_neg (by have:=hc.2;omega),w64 _ Z0]
   refine ih (i+1) Z0 (fun g=>h fun c hm=>?_) k Z0
   rw[List.drop_eq_getElem_cons hlt]at hm
   rcases List.mem_cons.1 hm with rfl|hm
   ·exact hc
   exact g c hm
  by_cases h1:(l[i].toNat:Int)<48
  ·rw[if_pos h1]
  rw[if_neg h1,if_pos (by
   have:¬(48≤l[i].toNat∧l[i].toNat≤57):=hc
   omega)]
theorem Read_l1 (l:List UInt8) (hl:l.length≤1000000) (hd:∀c∈l,isD c):∀(n i:Nat) (d:List Int),i+n=l.length→Num 65536 ((dv 0 (l.take i):Nat):Int) false d →
  ∃D,Ev (fun k=>tribunalref02_Read.l1 k (ba l) (i:Int) false d) (false,D,decide (0<l.length))∧Num 65536 ((dv 0 l:Nat):Int) false D:=by
 intro n
 induction n with
 | zero=>
  intro i d hi N
  rw[show l.take i=l from List.take_of_length_le Z0]at N
  refine⟨d,⟨1,fun k hk=>?_⟩,N⟩
  obtain⟨k,rfl⟩:∃j,k=j+1:=⟨k-1,Z0⟩
  show tribunalref02_Read.l1 (k+1) (ba l) (i:Int) false d=_
  rw[tribunalref02_Read.l1,if_neg D5,ba_size]
 | succ n ih=>
  intro i d hi N
  have hlt:i<l.length:=by omega
  have hc:=hd l[i] (List.getElem_mem hlt)
  have hld:=dv_len (fun c hm=>hd c (List.mem_of_mem_take hm)) N
  rw[List.length_take,Nat.min_eq_left Z0]at hld
  obtain⟨t,⟨K1,e1⟩,R1⟩:=timesD_ev d 10 Z0 Z0 N.rep.dig
  obtain⟨u,e,⟨K2,e2⟩,N2,l2⟩:=Small1_num (n:=((l[i].toNat-48:Nat):Int)) (by have:=hc.2;omega)
  have lt1:t.length≤l.length+1:=by
   refine rep_len J0 R1 ?_
   have h1:=N.rep.lt J0
   rw[N.rep.val]
   have h2:(65536:Int)^d.length*65536≤65536^l.length*65536:=Int.mul_le_mul_of_nonneg_right (pow_up J0 (by omega:d.length≤l.length)) J0
   rw[Int.pow_succ]
   omega
  obtain⟨r,⟨K3,e3⟩,D3,V3,l3⟩:=addD_ev t e Z0 Z0 R1.dig N2.rep.dig
  obtain⟨x,⟨K4,e4⟩,D4,T4,V4⟩:=Make_ev false r Z0 D3
  have NN:Num 65536 ((dv 0 (l.take (i+1)):Nat):Int) false x:=by
   refine⟨⟨D4,T4,?_⟩,(decide_eq_false Z0).symm⟩
   rw[V4,V3,R1.val,N2.rep.val,N.rep.val,dv_snoc l i hlt]
   omega
  obtain⟨D,⟨K5,e5⟩,ND⟩:=ih (i+1) x Z0 NN
  refine⟨D,⟨K1+K2+K3+K4+K5+1,fun k hk=>?_⟩,ND⟩
  obtain⟨k,rfl⟩:∃j,k=j+1:=⟨k-1,Z0⟩
  have g1:tribunalref02_timesD.f k d 10=_:=e1 k Z0
  have g2:tribunalref02_Small1.f k ((l[i].toNat-48:Nat):Int)=_:=e2 k Z0
  have g3:tribunalref02_addD.f k t e=_:=e3 k Z0
  have g4:tribunalref02_Make.f k false r=_:=e4 k Z0
  have g5:tribunalref02_Read.l1 k (ba l) ((i+1:Nat):Int) false x=_:=e5 k Z0
  have hcc:((l[i].toNat:Int)-48)%256=((l[i].toNat-48:Nat):Int):=by have:=hc.1;have:=hc.2;omega
  show tribunalref02_Read.l1 (k+1) (ba l) (i:Int) false d=_
  rw[tribunalref02_Read.l1,if_pos D5,g1,Option.bind_some,if_pos Z0,bt_ba l i hlt,hcc,g2,Option.bind_some]
  dsimp only
  rw[g3,Option.bind_some,g4,Option.bind_some,w64 _ Z0]
  exact g5
theorem Read_ev (l:List UInt8) (hl:l.length≤1000000):((∀c∈l,isD c)∧∃D,Ev (fun k=>tribunalref02_Read.f k (ba l)) (false,D,decide (0<l.length))∧Num 65536 ((dv 0 l:Nat):Int) false D)∨(¬(∀c∈l,isD c)∧Ev (fun k=>tribunalref02_Read.f k (ba l)) (false,[],false)):=by
 by_cases h:∀c∈l,isD c
 ·refine .inl ⟨h,?_⟩
  obtain⟨D,⟨K,e⟩,N⟩:=Read_l1 l hl h l.length 0 [] Z0 (by rw[List.take_zero,dv_nil];exact nil_num' _)
  refine⟨D,⟨K+l.length+1,fun k hk=>?_⟩,N⟩
  obtain⟨j,rfl⟩:∃j,k=j+l.length+1:=⟨k-l.length-1,Z0⟩
  show tribunalref02_Read.f (j+l.length+1) (ba l)=_
  rw[tribunalref02_Read.f]
  refine(Read_ok l hl h l.length 0 Z0 j).trans ?_
  exact e j Z0
 refine .inr ⟨h,⟨l.length+1,fun k hk=>?_⟩⟩
 show tribunalref02_Read.f k (ba l)=_
 rw[tribunalref02_Read.f]
 exact Read_bad l hl l.length 0 Z0 (by rwa [List.drop_zero]) k Z0
theorem mn_eq (n:Nat):mn 18 (n:Int)=((min 18 n:Nat):Int):=by
 unfold mn
 split<;>omega
theorem u64_small {x:Int} (h:0≤x∧x<18446744073709551616):IntKind.u64.wrap x=x:=by
 rw[show IntKind.u64.wrap x=x%18446744073709551616 from by simp[IntKind.wrap,IntKind.bits,IntKind.signed]]
 omega
theorem ten_small {j:Nat} (h:j≤18):(0:Int)≤10^j∧(10:Int)^j≤1000000000000000000:=by
 have h1:=pow_pos (B:=10) J0 j
 have h2:(10:Int)^j≤10^18:=pow_up J0 h
 have h3:(10:Int)^18=1000000000000000000:=by decide
 omega
theorem scale_l1 (x4:ByteArray) (b:Bool) (m:List Int) (x7 p:Int) (n:Nat) (hn:n≤18):∀(i j:Nat),j+i=n→∀k,whole_Parse.l1 (k+i) x4 b m x7 p (10^j) n j=whole_Parse.l1 k x4 b m x7 p (10^n) n n:=by
 intro i
 induction i with
 | zero=>
  intro j hj k
  obtain rfl:j=n:=by omega
  rfl
 | succ i ih=>
  intro j hj k
  have h1:=ten_small (show j+1≤18 by omega)
  rw[Int.pow_succ]at h1
  rw[show k+(i+1)=(k+i)+1 from by omega,whole_Parse.l1,if_pos Z0,u64_small Z0,w64 _ Z0,←Int.pow_succ]
  exact ih (j+1) Z0 k
theorem parseUint_ev {l:List UInt8} (h:∀c∈l,isD c) (h1:l.length≤18) (h0:l≠[]):strconv_ParseUintG.f (ba l) 10 64=some (((dv 0 l:Nat):Int),none):=by
 have hp:(0+1)*10^l.length≤10^18:=by
  rw[Nat.one_mul]
  exact Nat.pow_le_pow_right J0 h1
 have:=parse_dv l 0 h hp
 unfold strconv_ParseUintG.f
 rw[ba_size,ba_data,if_pos ⟨rfl,rfl,Z0,h0⟩,this]
theorem rep_le {a b:Int} {x y:List Int} (h:Rep 18446744073709551616 a x) (g:Rep 18446744073709551616 b y) (hab:a≤b):x.length≤y.length:=
 rep_len J0 h (Int.lt_of_le_of_lt hab (g.lt J0))
theorem trimmed_one (p:Int) (hp:0≤p∧p<18446744073709551616):∃r,Ev (fun k=>whole_trimmed.f k [p]) r∧Rep 18446744073709551616 p r∧r.length≤1:=by
 obtain⟨m,hm,he,ht,hv⟩:=whole_trimmed_l0 [p] Z1 1 2 Z1 Z0
 have hd:Dig 18446744073709551616 [p]:=by rw[Dig.cons];exact⟨hp,Dig.nil⟩
 refine⟨[p].take m,Ev.of (fun k=>whole_trimmed.mono [p] k) he,⟨hd.take m,ht,?_⟩,by rw[List.length_take];simp;omega⟩
 rw[hv]
 simp[val]
theorem Parse_l0 (b:Bool) (W:Nat) (q:List Int) (hq:Rep 18446744073709551616 ((W:Nat):Int) q):∀(N:Nat) (r:List UInt8) (V:Nat) (m:List Int),r.length≤N→r.length≤1000000→(∀c∈r,isD c)→Rep 18446744073709551616 ((V:Nat):Int) m→m.length≤4096→W=V*10^r.length+dv 0 r →
  Ev (fun k=>whole_Parse.l0 k (ba r) b m) (if q.length>4096 then(false,[],5) else(b&&decide (0<q.length),q,0)):=by
 intro N
 induction N with
 | zero=>
  intro r V m hN hr hd hm hl hW
  obtain rfl:r=[]:=List.length_eq_zero_iff.1 Z0
  have hWV:W=V:=by rw[hW,dv_nil];simp
  obtain rfl:=hq.uniq J0 (by rw[hWV];exact hm)
  refine⟨1,fun k hk=>?_⟩
  obtain⟨k,rfl⟩:∃j,k=j+1:=⟨k-1,Z0⟩
  show whole_Parse.l0 (k+1) (ba []) b q=_
  rw[whole_Parse.l0,ba_toList,if_pos rfl,signed_eq,Option.bind_some,told_ok _ hl,Option.bind_some,if_neg Z0]
 | succ N ih=>
  intro r V m hN hr hd hm hl hW
  by_cases hr0:r=[]
  ·subst hr0
   have hWV:W=V:=by rw[hW,dv_nil];simp
   obtain rfl:=hq.uniq J0 (by rw[hWV];exact hm)
   refine⟨1,fun k hk=>?_⟩
   obtain⟨k,rfl⟩:∃j,k=j+1:=⟨k-1,Z0⟩
   show whole_Parse.l0 (k+1) (ba []) b q=_
   rw[whole_Parse.l0,ba_toList,if_pos rfl,signed_eq,Option.bind_some,told_ok _ hl,Option.bind_some,if_neg Z0]
  have hpos:=List.length_pos_iff.2 hr0
  obtain⟨n,hn⟩:∃n,n=min 18 r.length:=⟨_,rfl⟩
  have hd1:∀c∈r.take n,isD c:=fun c hc=>hd c (List.mem_of_mem_take hc)
  have hd2:∀c∈r.drop n,isD c:=fun c hc=>hd c (List.mem_of_mem_drop hc)
  have hl1:(r.take n).length=n:=by rw[List.length_take];omega
  have hl2:(r.drop n).length=r.length-n:=List.length_drop
  have hp:=dv_lt _ hd1
  rw[hl1]at hp
  have h10:=ten_small (show n≤18 by omega)
  have hpI:((dv 0 (r.take n):Nat):Int)<10^n:=by
   have:((dv 0 (r.take n):Nat):Int)<((10^n:Nat):Int):=Int.ofNat_lt.2 hp
   simpa using this
  have g1:=parseUint_ev hd1 Z0 (fun h=>by rw[h]at hl1;simp at hl1;omega)
  obtain⟨t,⟨K2,e2⟩,D2,T2,V2⟩:=times_ev m [10^n] Z0 Z1 hm.dig J6
  obtain⟨p,⟨K3,e3⟩,R3,l3⟩:=trimmed_one ((dv 0 (r.take n):Nat):Int) Z0
  have ht:t.length≤4097:=by
   refine rep_len J0 (⟨D2,T2,rfl⟩:Rep 18446744073709551616 _ t) ?_
   rw[V2,hm.val]
   have h1:=hm.lt J0
   have h2:(18446744073709551616:Int)^m.length≤18446744073709551616^4096:=pow_up J0 hl
   have h3:val 18446744073709551616 [(10:Int)^n]=10^n:=by simp[val]
   rw[h3,Int.pow_succ]
   have h0:(0:Int)≤(V:Int):=by omega
   have h4:(V:Int)*10^n≤V*1000000000000000000:=Int.mul_le_mul_of_nonneg_left h10.2 h0
   generalize (18446744073709551616:Int)^4096=Z at *
   omega
  obtain⟨x,⟨K4,e4⟩,R4⟩:=plus_ev t p Z0 Z0 D2 R3.dig
  have RX:Rep 18446744073709551616 ((V*10^n+dv 0 (r.take n):Nat):Int) x:=by
   rw[V2,R3.val,hm.val,show val 18446744073709551616 [(10:Int)^n]=10^n from by simp[val]]at R4
   simpa using R4
  have hWX:W=(V*10^n+dv 0 (r.take n))*10^(r.drop n).length+dv 0 (r.drop n):=by
   rw[hW]
   have e1:dv 0 r=dv 0 (r.take n)*10^(r.drop n).length+dv 0 (r.drop n):=by
    rw[←dv_lin,←dv_app,List.take_append_drop]
   have e2:10^r.length=10^n*10^(r.drop n).length:=by
    rw[←Nat.pow_add,hl2];congr 1;omega
   rw[e1,e2,Nat.add_mul,Nat.mul_assoc,Nat.add_assoc]
  have hle:V*10^n+dv 0 (r.take n)≤W:=by
   rw[hWX]
   exact Nat.le_trans (Nat.le_mul_of_pos_right _ (Nat.pow_pos J0)) (Nat.le_add_right _ _)
  have hxq:=rep_le RX hq (Int.ofNat_le.2 hle)
  have step:∀k,K2+K3+K4≤k→whole_Parse.l0 (k+n+2) (ba r) b m=if(x.length:Int)>4096 then some (false,[],5) else whole_Parse.l0 k (ba (r.drop n)) b x:=by
   intro k hk
   have k2:whole_amount_times.f k m [10^n]=_:=e2 k Z0
   have k3:whole_trimmed.f k [((dv 0 (r.take n):Nat):Int)]=_:=e3 k Z0
   have k4:whole_amount_plus.f k t p=_:=e4 k Z0
   rw[show k+n+2=(k+1+n)+1 from by omega,whole_Parse.l0,ba_toList,if_neg hr0,ba_size,mn_eq,←hn,if_pos Z0,if_pos Z0,ba_extract,Int.toNat_natCast,List.drop_zero,Nat.sub_zero,g1,Option.bind_some]
   dsimp only
   have:=scale_l1 (ba r) b m (n:Int) ((dv 0 (r.take n):Nat):Int) n Z0 n 0 Z0 (k+1)
   rw[show((10:Int)^0)=1 from rfl]at this
   refine this.trans ?_
   rw[whole_Parse.l1,if_neg Z0,k2,Option.bind_some,k3,Option.bind_some,k4,Option.bind_some]
   by_cases hx:(x.length:Int)>4096
   ·rw[if_pos hx,if_pos hx]
   rw[if_neg hx,if_neg hx,ba_size,if_pos Z0,if_pos Z0,ba_extract,Int.toNat_natCast,List.take_of_length_le (by rw[hl2];omega)]
  by_cases hx:x.length>4096
  ·rw[if_pos Z0]
   refine⟨K2+K3+K4+n+2,fun k hk=>?_⟩
   obtain⟨j,rfl⟩:∃j,k=j+n+2:=⟨k-n-2,Z0⟩
   exact(step j Z0).trans (if_pos Z0)
  obtain⟨K5,e5⟩:=ih (r.drop n) _ x Z0 Z0 hd2 RX Z0 hWX
  refine⟨K2+K3+K4+K5+n+2,fun k hk=>?_⟩
  obtain⟨j,rfl⟩:∃j,k=j+n+2:=⟨k-n-2,Z0⟩
  exact((step j Z0).trans (if_neg Z0)).trans (e5 j Z0)
theorem Lg_false {r:Rat}:Lg r=false↔(r.num.natAbs:Int)<B1024∧(r.den:Int)<B1024:=by
 unfold Lg
 simp
theorem FQ.lens {L:Nat} {r:Rat} {s t:Bool} {l p:List Int} (Q:FQ L r s l t p):Lg r=false↔l.length≤1024∧p.length≤1024:=by
 have h1:=len_big Q.n
 have h2:=len_big Q.d
 rw[Int.natAbs_natCast]at h2
 rw[Lg_false,h1,h2]
theorem FQ.low {L:Nat} {r:Rat} {s t:Bool} {l p:List Int} (Q:FQ L r s l t p) (h:Lg r=false):FQ 1024 r s l t p:=
 ⟨Q.n,Q.d,(Q.lens.1 h).1,(Q.lens.1 h).2⟩
theorem Arg.of {L:Nat} {r:Rat} {s t:Bool} {l p:List Int} (Q:FQ L r s l t p) (hL:L≤1048576) (hz:Lg r=false):Arg 0 r s l p:=by
 have ht:=Q.t
 subst ht
 have q:=Q.low hz
 obtain⟨a,N,E1,⟨K1,e1⟩,R1,l1,_,h1⟩:=limbs l (by have:=Q.ln;omega) Q.n.rep.dig
 obtain⟨b,M,E2,⟨K2,e2⟩,R2,l2,z2,h2⟩:=limbs p (by have:=Q.ld;omega) Q.d.rep.dig
 obtain rfl:a=l:=by
  have h:=Q.n.rep
  rw[h.val]at R1
  exact R1.uniq J0 h
 obtain rfl:b=p:=by
  have h:=Q.d.rep
  rw[h.val]at R2
  exact R2.uniq J0 h
 have d1:=q.ln
 have d2:=q.ld
 have c1:M≠0:=by
  intro h
  have hb:=z2.1 h
  have:=(Q.d.rep.nil_iff J0).1 hb
  have:=rat_den_pos r
  omega
 have c2:¬N>65536:=fun h=>by have:=h1.1 h;omega
 have c3:¬M>65536:=fun h=>by have:=h2.1 h;omega
 refine⟨⟨K1+K2,fun k hk=>?_⟩,⟨M,⟨K2,e2⟩,by simp[c1]⟩,.inl rfl,fun _=>q.a Z0⟩
 have g1:nat_Len.f k a=_:=e1 k Z0
 have g2:nat_Len.f k b=_:=e2 k Z0
 show ratio_made.f k s a b=_
 rw[ratio_made.f,g2,Option.bind_some,if_neg c1,ratio_number_long.f,g1,Option.bind_some,Option.bind_some,if_neg (by simpa using c2),ratio_number_long.f,g2,Option.bind_some,Option.bind_some,if_neg (by simpa using c3),if_pos rfl]
def Res (c:Int) (r:Rat) (z:Bool×List Int×List Int×Int):Prop:=
 c≠0∧z=(false,[],[],c)∨c=0∧(Lg r=true∧z=(false,[],[],5)∨Lg r=false∧z.2.2.2=0∧∃t,FQ 1024 r z.1 z.2.1 t z.2.2.1)
theorem Res.uniq {c:Int} {r:Rat} {z y:Bool×List Int×List Int×Int} (h:Res c r z) (g:Res c r y):z=y:=by
 rcases h with⟨h,rfl⟩|⟨h,⟨h1,rfl⟩|⟨h1,e,t,Q⟩⟩<;>rcases g with⟨g,rfl⟩|⟨g,⟨g1,rfl⟩|⟨g1,e',t',Q'⟩⟩
 ·rfl
 ·exact absurd g h
 ·exact absurd g h
 ·exact absurd h g
 ·rfl
 ·rw[h1]at g1;exact absurd g1 J0
 ·exact absurd h g
 ·rw[h1]at g1;exact absurd g1 J0
 obtain⟨e1,e2,_,e3⟩:=Q.uniq Q'
 obtain⟨z1,z2,z3,z4⟩:=z
 obtain⟨y1,y2,y3,y4⟩:=y
 simp only at e1 e2 e3 e e'
 rw[e1,e2,e3,e,e']
theorem Same3_l0 (a:Bool) (l p:List Int) (hp:p.length≤8388608):∀(n i:Nat),i+n=p.length→∀k,n<k→tribunalref03_Same.l0 k (i:Int) a l p a l p=some true:=by
 intro n
 induction n with
 | zero=>
  intro i hi k hk
  obtain⟨k,rfl⟩:∃j,k=j+1:=⟨k-1,Z0⟩
  rw[tribunalref03_Same.l0,if_neg Z0]
 | succ n ih=>
  intro i hi k hk
  obtain⟨k,rfl⟩:∃j,k=j+1:=⟨k-1,Z0⟩
  have w:wrap64 ((i:Int)+1)=((i+1:Nat):Int):=by rw[w64 _ Z0];omega
  rw[tribunalref03_Same.l0,if_pos Z0,if_pos Z0,if_pos Z0,if_pos rfl,w]
  exact ih (i+1) Z0 k Z0
theorem Same3_ev (a:Bool) (l p:List Int) (hl:l.length≤8388608) (hp:p.length≤8388608):Ev (fun k=>tribunalref03_Same.f k a l p a l p) true:=by
 obtain⟨K,e⟩:=Same_ev a l hl
 refine⟨K+p.length+2,fun k hk=>?_⟩
 have g:tribunalref02_Same.f k a l a l=_:=e k Z0
 obtain⟨k,rfl⟩:∃j,k=j+1:=⟨k-1,Z0⟩
 show tribunalref03_Same.f (k+1) a l p a l p=_
 rw[tribunalref03_Same.f,if_pos rfl,g,Option.bind_some,tribunalref03_Same.j0,if_neg J0]
 exact Same3_l0 a l p hp p.length 0 Z0 k Z0
theorem dgB_isD (c:UInt8):dgB c=true↔isD c:=by
 unfold dgB isD
 exact decide_eq_true_iff
def good (l:List UInt8):Bool:=decide (0<l.length)&&l.all dgB
theorem good_iff (l:List UInt8):good l=true↔l≠[]∧∀c∈l,isD c:=by
 unfold good
 rw[Bool.and_eq_true,decide_eq_true_eq,List.all_eq_true]
 constructor
 ·rintro⟨h1,h2⟩
  exact⟨List.length_pos_iff.1 h1,fun c hc=>(dgB_isD c).1 (h2 c hc)⟩
 rintro⟨h1,h2⟩
 exact⟨List.length_pos_iff.2 h1,fun c hc=>(dgB_isD c).2 (h2 c hc)⟩
theorem plain_eq (l:List UInt8):ratio_plainG.f (ba l)=some (good l):=by
 show some (!(ba l).toList.isEmpty&&dgFrom (ba l) 0)=_
 rw[ba_toList]
 unfold dgFrom good
 rw[ba_data,List.drop_zero]
 cases l<;>simp
theorem Read_good (l:List UInt8) (hl:l.length≤1000000):∃D,Ev (fun k=>tribunalref02_Read.f k (ba l)) (false,D,good l)∧(good l=true→Num 65536 ((dv 0 l:Nat):Int) false D):=by
 rcases Read_ev l hl with⟨h,D,e,N⟩|⟨h,e⟩
 ·refine⟨D,?_,fun _=>N⟩
  have:good l=decide (0<l.length):=by
   unfold good
   rw[List.all_eq_true.2 (fun c hc=>(dgB_isD c).2 (h c hc)),Bool.and_true]
  rw[this];exact e
 have:good l=false:=by
  cases hg:good l with
  | false=>rfl
  | true=>exact absurd ((good_iff l).1 hg).2 h
 exact⟨[],by rw[this];exact e,fun hg=>by rw[this]at hg;cases hg⟩
theorem dv_pow {l:List UInt8} (h:∀c∈l,isD c) {m:Nat} (hm:l.length≤16*m):((dv 0 l:Nat):Int)<18446744073709551616^m:=by
 have h1:=dv_lt l h
 have h2:(10:Nat)^l.length≤16^l.length:=Nat.pow_le_pow_left J0 _
 have h3:(16:Nat)^l.length≤16^(16*m):=Nat.pow_le_pow_right J0 hm
 rw[Nat.pow_mul]at h3
 have h4:dv 0 l<(16^16:Nat)^m:=by omega
 have h5:((dv 0 l:Nat):Int)<(((16^16:Nat)^m:Nat):Int):=Int.ofNat_lt.2 h4
 rw[Int.natCast_pow]at h5
 exact h5
theorem hasPrefix_cons (c:UInt8) (r:List UInt8):Lib.hasPrefix (c::r) [45]=(45==c):=by
 unfold Lib.hasPrefix
 simp[List.isPrefixOf]
theorem Parse_good (l:List UInt8) (hl:l.length≤20000) (hg:good l=true):∃q,Ev (fun k=>whole_Parse.f k (ba l)) (false,q,0)∧Num 18446744073709551616 ((dv 0 l:Nat):Int) false q∧q.length≤1250:=by
 obtain⟨h0,hD⟩:=(good_iff l).1 hg
 have hp:Lib.hasPrefix l [45]=false:=by
  match l,h0,hD with
  | c::r,_,hD=>
   rw[hasPrefix_cons]
   refine beq_eq_false_iff_ne.2 fun h=>?_
   have:=(hD c (List.mem_cons_self ..)).1
   rw[←h]at this
   exact absurd this J0
 have hd:Lib.trimPrefix l [45]=l:=by unfold Lib.trimPrefix;rw[hp];rfl
 have hc:strings_CutPrefixG.f (ba l) (⟨#[45]⟩:ByteArray)=some (ba l,false):=by
  show some (ba (Lib.trimPrefix l [45]),Lib.hasPrefix l [45])=_
  rw[hp,hd]
 rcases Read_ev l Z0 with⟨_,D,_,N1⟩|⟨hn,_⟩
 ·have hld:=dv_len hD N1
  obtain⟨q,_,R1,R2,R3,_,_⟩:=To_ev D false Z0 N1.rep.dig N1.rep.top
  have R0:=N1.rep
  rw[Int.natAbs_natCast]at R0
  have RQ:Rep 18446744073709551616 ((dv 0 l:Nat):Int) q:=⟨R1,R2,R3.trans R0.val⟩
  have lq:q.length≤1250:=rep_len J0 RQ (dv_pow hD Z0)
  have hz0:∀c∈Lib.trimLeftS l [48],isD c:=fun c hc=>hD c (List.dropWhile_subset _ hc)
  have aa:(Lib.trimLeftS l [48]).length≤l.length:=(List.dropWhile_suffix _).length_le
  obtain⟨K4,e4⟩:=Parse_l0 false (dv 0 l) q RQ l.length (Lib.trimLeftS l [48]) 0 [] aa Z0 hz0 ((nil_num' _).rep) Z1 (by rw[Nat.zero_mul,Nat.zero_add];exact(dv_zeros l).symm)
  refine⟨q,⟨K4+1,fun k hk=>?_⟩,⟨by rw[Int.natAbs_natCast];exact RQ,(decide_eq_false Z0).symm⟩,lq⟩
  obtain⟨k,rfl⟩:∃j,k=j+1:=⟨k-1,Z0⟩
  show whole_Parse.f (k+1) (ba l)=_
  rw[whole_Parse.f,hc,Option.bind_some]
  dsimp only
  rw[ba_toList,if_neg h0,strings_TrimG.f,if_pos ⟨D5,rfl⟩,Option.bind_some,ba_data]
  have hT:(ba (Lib.trimS l [48,49,50,51,52,53,54,55,56,57])).toList=[]:=by rw[ba_toList];exact(trim_nil l).2 hD
  show whole_Parse.j0 (k+1) (ba l) false ((ba (Lib.trimS l [48,49,50,51,52,53,54,55,56,57])).toList != [])=_
  rw[hT,show(([]:List UInt8) != [])=false from rfl,whole_Parse.j0,if_neg J0,strings_TrimLeftG.f,if_pos rfl,Option.bind_some,ba_data]
  refine(e4 k Z0).trans ?_
  rw[if_neg Z0,Bool.false_and]
 exact absurd hD hn
theorem scan_no (L:List UInt8) (hL:L.length≤1000000) (h:∀j:Nat,L[j]? ≠ some 47):∀(n i:Nat),i+n=L.length→∀k,tribunalref03_Parse.l0 (k+n+1) (ba L) (-1) (i:Int)=tribunalref03_Parse.j1 k (ba L) (ba [49]):=by
 intro n
 induction n with
 | zero=>
  intro i hi k
  rw[tribunalref03_Parse.l0,if_neg D5,if_neg J0]
  rfl
 | succ n ih=>
  intro i hi k
  have hlt:i<L.length:=by omega
  have hb:¬((L[i].toNat:Int)=47):=fun e=>h i (by rw[List.getElem?_eq_getElem hlt];exact congrArg some (UInt8.toNat_inj.1 (by rw[show(47:UInt8).toNat=47 from rfl];omega)))
  rw[show k+(n+1)+1=(k+n+1)+1 from by omega,tribunalref03_Parse.l0,if_pos D5,if_pos Z0,bt_ba L i hlt,if_neg hb,w64 _ Z0]
  exact ih (i+1) Z0 k
theorem scan_on (L:List UInt8) (hL:L.length≤1000000) (c:Nat) (hc:c<L.length):∀(n i:Nat),i+n=L.length→∀k,tribunalref03_Parse.l0 (k+n+1) (ba L) (c:Int) (i:Int)=tribunalref03_Parse.j1 k (ba (L.take c)) (ba (L.drop (c+1))):=by
 intro n
 induction n with
 | zero=>
  intro i hi k
  rw[tribunalref03_Parse.l0,if_neg D5,if_pos Z0,if_pos Z0,if_pos D5,w64 _ Z0,if_pos Z0,if_pos D5]
  have e1:(ba L).extract 0 ((c:Int)).toNat=ba (L.take c):=by rw[ba_extract];simp
  have e2:(ba L).extract (((c:Int)+1)).toNat (ba L).size=ba (L.drop (c+1)):=by
   rw[ba_extract,ba_size,show(((c:Int)+1)).toNat=c+1 from by omega,List.take_of_length_le (by rw[List.length_drop];omega)]
  rw[e1,e2]
 | succ n ih=>
  intro i hi k
  have hlt:i<L.length:=by omega
  have hs:=ih (i+1) Z0 k
  rw[show k+(n+1)+1=(k+n+1)+1 from by omega,tribunalref03_Parse.l0,if_pos D5,if_pos Z0,w64 _ Z0]
  by_cases hb:bt (ba L) (i:Int)=47
  ·rw[if_pos hb,if_neg Z0];exact hs
  rw[if_neg hb];exact hs
theorem scan_at (L:List UInt8) (hL:L.length≤1000000) (c:Nat) (hc:L[c]? = some 47) (hn:∀j:Nat,j<c→L[j]? ≠ some 47):∀(n i:Nat),i+n=c→∀k,tribunalref03_Parse.l0 (k+n+1) (ba L) (-1) (i:Int)=tribunalref03_Parse.l0 k (ba L) (c:Int) ((c:Int)+1):=by
 obtain⟨hlc,hc2⟩:=List.getElem?_eq_some_iff.1 hc
 intro n
 induction n with
 | zero=>
  intro i hi k
  obtain rfl:i=c:=by omega
  rw[tribunalref03_Parse.l0,if_pos D5,if_pos Z0,bt_ba L i hlc,hc2,if_pos F1,if_pos J0,w64 _ Z0]
 | succ n ih=>
  intro i hi k
  have hlt:i<L.length:=by omega
  have hb:¬((L[i].toNat:Int)=47):=fun e=>hn i Z0 (by rw[List.getElem?_eq_getElem hlt];exact congrArg some (UInt8.toNat_inj.1 (by rw[show(47:UInt8).toNat=47 from rfl];omega)))
  rw[show k+(n+1)+1=(k+n+1)+1 from by omega,tribunalref03_Parse.l0,if_pos D5,if_pos Z0,bt_ba L i hlt,if_neg hb,w64 _ Z0]
  exact ih (i+1) Z0 k
theorem ref_sign (M D:List UInt8) (hM:M.length≤1000000) (k:Nat):tribunalref03_Parse.j1 (k+2) (ba M) (ba D)=tribunalref03_Parse.j3 k (ba (Lib.trimPrefix M [45])) (ba D) (Lib.hasPrefix M [45]):=by
 match M,hM with
 | [],_=>
  rw[tribunalref03_Parse.j1,if_neg (by rw[ba_size];simp),tribunalref03_Parse.j2,if_neg J0]
  rfl
 | c::r,hL=>
  have hb:bt (ba (c::r)) 0=(c.toNat:Int):=bt_ba (c::r) 0 Z1
  rw[tribunalref03_Parse.j1,if_pos D9,if_pos D9,hb]
  by_cases hc:c=45
  ·subst hc
   rw[show(((45:UInt8).toNat:Int)==45)=true from rfl,tribunalref03_Parse.j2,if_pos rfl,if_pos D9,ba_extract,ba_size]
   rw[show((45::r:List UInt8).drop 1).take ((45::r:List UInt8).length-1)=r from by simp]
   rfl
  have hne:((c.toNat:Int)==45)=false:=by
   refine beq_eq_false_iff_ne.2 fun h=>hc (UInt8.toNat_inj.1 ?_)
   have:c.toNat=45:=by omega
   rw[this];rfl
  have hpf:Lib.hasPrefix (c::r) [45]=false:=by
   rw[hasPrefix_cons];exact beq_eq_false_iff_ne.2 (fun h=>hc h.symm)
  rw[hne,tribunalref03_Parse.j2,if_neg J0]
  unfold Lib.trimPrefix
  rw[hpf];rfl
def halves (d:List UInt8):List UInt8×List UInt8:=if Lib.indexByte d 47<0 then(d,[49]) else(d.take (Lib.indexByte d 47).toNat,d.drop ((Lib.indexByte d 47).toNat+1))
theorem trim_cases (L:List UInt8):(∃r,L=45::r∧Lib.hasPrefix L [45]=true∧Lib.trimPrefix L [45]=r)∨(Lib.hasPrefix L [45]=false∧Lib.trimPrefix L [45]=L):=by
 match L with
 | []=>exact .inr ⟨rfl,rfl⟩
 | c::r=>
  by_cases hc:c=45
  ·subst hc
   exact .inl ⟨r,rfl,rfl,rfl⟩
  have hpf:Lib.hasPrefix (c::r) [45]=false:=by
   rw[hasPrefix_cons];exact beq_eq_false_iff_ne.2 (fun h=>hc h.symm)
  exact .inr ⟨hpf,by unfold Lib.trimPrefix;rw[hpf];rfl⟩
theorem halves_cons (r:List UInt8):halves (45::r)=(45::(halves r).1,(halves r).2):=by
 have hi:Lib.indexByte (45::r) 47=if(Lib.indexByte r 47 == -1)=true then -1 else Lib.indexByte r 47+1:=rfl
 have hge:=Lib.indexByte_ge r 47
 unfold halves
 rw[hi]
 by_cases h:Lib.indexByte r 47 = -1
 ·rw[h];rfl
 have h2:(Lib.indexByte r 47 == -1)=false:=beq_eq_false_iff_ne.2 h
 rw[h2,show(if false=true then(-1:Int) else Lib.indexByte r 47+1)=Lib.indexByte r 47+1 from rfl,if_neg Z0,if_neg Z0]
 have e:(Lib.indexByte r 47+1).toNat=(Lib.indexByte r 47).toNat+1:=by omega
 rw[e,List.take_succ_cons,List.drop_succ_cons]
theorem ref_scan (L:List UInt8) (hL:L.length≤1000000) (k:Nat):tribunalref03_Parse.f (k+L.length+1) (ba L)=tribunalref03_Parse.j1 k (ba (halves L).1) (ba (halves L).2):=by
 rw[tribunalref03_Parse.f]
 unfold halves
 have hge:=Lib.indexByte_ge L 47
 by_cases hi:Lib.indexByte L 47<0
 ·rw[if_pos hi]
  exact scan_no L hL (Lib.indexByte_none Z0) L.length 0 Z0 k
 rw[if_neg hi]
 obtain⟨c,hc⟩:∃c:Nat,Lib.indexByte L 47=c:=⟨(Lib.indexByte L 47).toNat,Z0⟩
 obtain⟨h1,h2⟩:=Lib.indexByte_some hc
 have hlt:=(List.getElem?_eq_some_iff.1 h1).1
 rw[hc]
 obtain⟨n,hn⟩:∃n,c+1+n=L.length:=⟨L.length-(c+1),Z0⟩
 rw[show k+L.length+1=(k+n+1)+c+1 from by omega]
 refine(scan_at L hL c h1 h2 c 0 Z0 (k+n+1)).trans ?_
 exact scan_on L hL c hlt n (c+1) Z0 k
theorem ref_halves (L:List UInt8) (hL:L.length≤1000000) (k:Nat):tribunalref03_Parse.f (k+2+L.length+1) (ba L)=tribunalref03_Parse.j3 k (ba (halves (Lib.trimPrefix L [45])).1) (ba (halves (Lib.trimPrefix L [45])).2) (Lib.hasPrefix L [45]):=by
 rw[ref_scan L hL]
 have hlen:(halves L).1.length≤L.length:=by
  unfold halves
  split
  ·exact Nat.le_refl _
  rw[List.length_take];omega
 rw[ref_sign _ _ Z0]
 rcases trim_cases L with⟨r,rfl,h1,h2⟩|⟨h1,h2⟩
 ·rw[h1,h2,halves_cons]
  rfl
 rw[h1,h2]
 have:Lib.hasPrefix (halves L).1 [45]=false∧Lib.trimPrefix (halves L).1 [45]=(halves L).1:=by
  match L,h1 with
  | [],_=>exact⟨rfl,rfl⟩
  | c::r,h1=>
   have hp:∀n,Lib.hasPrefix ((c::r).take n) [45]=false:=by
    intro n
    cases n with
    | zero=>rfl
    | succ n=>rw[List.take_succ_cons,hasPrefix_cons];rwa [hasPrefix_cons]at h1
   have hq:Lib.hasPrefix (halves (c::r)).1 [45]=false:=by
    unfold halves
    split
    ·exact h1
    exact hp _
   exact⟨hq,by unfold Lib.trimPrefix;rw[hq];rfl⟩
 rw[this.1,this.2]
theorem ratio_halves (L:List UInt8) (hL:L.length≤20000) (k:Nat):ratio_Parse.f (k+1) (ba L)=if(good (halves (Lib.trimPrefix L [45])).1&&good (halves (Lib.trimPrefix L [45])).2)=true then ratio_Parse.j1 k (ba L) (ba (halves (Lib.trimPrefix L [45])).1) (ba (halves (Lib.trimPrefix L [45])).2) else some (false,[],[],13):=by
 have hT:(Lib.trimPrefix L [45]).length≤L.length:=by
  unfold Lib.trimPrefix
  split
  ·rw[List.length_drop];omega
  exact Nat.le_refl _
 rw[ratio_Parse.f,show strings_TrimPrefixG.f (ba L) (⟨#[45]⟩:ByteArray)=some (ba (Lib.trimPrefix L [45])) from rfl,Option.bind_some]
 generalize Lib.trimPrefix L [45]=d at hT ⊢
 have hge:=Lib.indexByte_ge d 47
 by_cases hi:Lib.indexByte d 47<0
 ·have hc:strings_CutG.f (ba d) (⟨#[47]⟩:ByteArray)=some (ba d,ba [],false):=by
   rw[strings_CutG.f,if_pos ⟨rfl,D5⟩,ba_data,if_pos hi]
   rfl
  rw[hc,Option.bind_some]
  dsimp only
  rw[plain_eq,Option.bind_some,show halves d=(d,[49]) from if_pos hi]
  dsimp only
  rw[show good [49]=true from rfl,Bool.and_true]
  cases good d with
  | true=>rw[if_pos rfl,if_neg J0,if_pos rfl,ratio_Parse.j0,if_neg J0,if_neg J0];rfl
  | false=>rw[if_neg J0,if_neg J0,ratio_Parse.j0,if_pos rfl]
 obtain⟨n,hn⟩:∃n:Nat,Lib.indexByte d 47=n:=⟨(Lib.indexByte d 47).toNat,Z0⟩
 have hc:strings_CutG.f (ba d) (⟨#[47]⟩:ByteArray)=some (ba (d.take n),ba (d.drop (n+1)),true):=by
  rw[strings_CutG.f,if_pos ⟨rfl,D5⟩,ba_data,if_neg hi,hn,Int.toNat_natCast,ba_extract,ba_extract,ba_size,List.take_of_length_le (l:=d.drop (n+1)) (by rw[List.length_drop];omega)]
  simp
 rw[hc,Option.bind_some]
 dsimp only
 rw[plain_eq,Option.bind_some,show halves d=(d.take n,d.drop (n+1)) from by unfold halves;rw[if_neg hi,hn,Int.toNat_natCast]]
 dsimp only
 rw[plain_eq,Option.bind_some]
 cases good (d.take n) with
 | true=>
  rw[if_pos rfl,if_pos rfl,Bool.true_and]
  cases good (d.drop (n+1)) with
  | true=>rw[if_pos rfl,ratio_Parse.j0,if_neg J0,if_pos rfl]
  | false=>rw[if_neg J0,ratio_Parse.j0,if_pos F1]
 | false=>rw[if_neg J0,Bool.false_and,if_neg J0,ratio_Parse.j0,if_pos rfl]
theorem Lg_low {n:Int} {d:Nat} {u:Bool} {q t:List Int} (h1:Num 65536 (mkRat n d).num u q) (h2:Num 65536 ((mkRat n d).den:Int) false t) {a b c:Bool} {x y:List Int} {L:Nat} (F:FQ L (mkRat n d) a x b y) (l1:q.length≤4096) (l2:t.length≤4096):Lg (mkRat n d)=false:=by
 have g1:=len4' F.n h1 Z0
 have g2:=len4' F.d h2 Z0
 have b1:=(len_big F.n).1 Z0
 have b2:=(len_big F.d).1 Z0
 unfold Lg
 rw[decide_eq_false Z0,decide_eq_false Z0]
 rfl
theorem Of_ev {m:Int} {e:Nat} {u:Bool} {x y:List Int} (hm:Num 18446744073709551616 m u x) (hd:Num 18446744073709551616 (e:Int) false y) (lx:x.length≤1024) (ly:y.length≤1024) :
  (e=0→Ev (fun k=>ratio_Of.f k u x false y) (false,[],[],11))∧(e≠0→∃a b c d,Ev (fun k=>ratio_Of.f k u x false y) (if Lg (mkRat m e) then(false,[],[],5) else(a,b,d,0))∧FQ 1024 (mkRat m e) a b c d):=by
 have A1:AN 1024 m u x:=AN.of hm lx J0
 have A2:AN 1024 (e:Int) false y:=AN.of hd ly J0
 obtain⟨K1,e1⟩:=A2.sign J0
 obtain⟨K2,e2⟩:=long_num hm Z0 u
 obtain⟨K3,e3⟩:=long_num hd Z0 false
 have b1:=(len_big hm).1 lx
 have b2:=(len_big hd).1 ly
 rw[decide_eq_false Z0]at e2
 rw[decide_eq_false Z0]at e3
 constructor
 ·rintro rfl
  refine⟨K1,fun k hk=>?_⟩
  have g1:whole_Sign.f k false y=_:=e1 k hk
  show ratio_Of.f k u x false y=_
  rw[ratio_Of.f,g1,Option.bind_some,if_pos F1]
 intro he
 have hs:sg (e:Int)=1:=by unfold sg;split<;>(try split)<;>omega
 rw[hs]at e1
 obtain⟨a,b,c,d,⟨K4,e4⟩,F⟩:=fr_out_ev (r:=mkRat m e) ⟨m,e,A1,A2,he,rfl⟩ J0
 refine⟨a,b,c,d,⟨K1+K2+K3+K4+1,fun k hk=>?_⟩,F⟩
 obtain⟨k,rfl⟩:∃j,k=j+1:=⟨k-1,Z0⟩
 have g1:whole_Sign.f (k+1) false y=_:=e1 (k+1) Z0
 have g1':whole_Sign.f k false y=_:=e1 k Z0
 have g2:ratio_number_long.f (k+1) u x=_:=e2 (k+1) Z0
 have g3:ratio_number_long.f (k+1) false y=_:=e3 (k+1) Z0
 have g4:ratio_fraction_out.f k u x false y=_:=e4 k Z0
 show ratio_Of.f (k+1) u x false y=_
 rw[ratio_Of.f,g1,Option.bind_some,if_neg J0,g2,Option.bind_some,if_neg J0,g3,Option.bind_some,ratio_Of.j0,if_neg J0,g1',Option.bind_some,if_neg J0,g4,Option.bind_some]
theorem To3_ev {m:Int} {e:Nat} {u:Bool} {x y:List Int} (hm:Num 65536 m u x) (hd:Num 65536 (e:Int) false y) (he:e≠0) (lx:x.length≤4096) (ly:y.length≤4096) :
  ∃a b c d,Ev (fun k=>tribunalref03_To.f k u x false y) (a,b,d,0)∧FQ 1024 (mkRat m e) a b c d∧Lg (mkRat m e)=false:=by
 obtain⟨a,q,t,⟨K1,e1⟩,N1,N2,l1,l2⟩:=Qlow_ev hm hd he lx ly
 obtain⟨b,⟨K2,e2⟩,M1,k1⟩:=to_num N1 Z0
 obtain⟨d,⟨K3,e3⟩,M2,k2⟩:=to_num N2 Z0
 have F:FQ 1024 (mkRat m e) a b false d:=⟨M1,M2,Z0,Z0⟩
 refine⟨a,b,false,d,⟨K1+K2+K3+1,fun k hk=>?_⟩,F,Lg_low N1 N2 (c:=false) F l1 l2⟩
 obtain⟨k,rfl⟩:∃j,k=j+1:=⟨k-1,Z0⟩
 have g1:tribunalref03_Low.f (k+1) u x false y=_:=e1 (k+1) Z0
 have g2:tribunalref02_To.f k a q=_:=e2 k Z0
 have g3:tribunalref02_To.f k false t=_:=e3 k Z0
 show tribunalref03_To.f (k+1) u x false y=_
 rw[tribunalref03_To.f,g1,Option.bind_some]
 dsimp only
 rw[tribunalref03_long.f,Option.bind_some,if_neg (by simpa using (by omega:¬(4096:Int)<(q.length:Int))),tribunalref03_long.f,Option.bind_some,tribunalref03_To.j0,if_neg (by simpa using (by omega:¬(4096:Int)<(t.length:Int))),g2,Option.bind_some,g3,Option.bind_some]
theorem parse_both (L:List UInt8) (hL:L.length≤20000):∃z:Bool×List Int×List Int×Int,Ev (fun k=>ratio_Parse.f k (ba L)) z∧Ev (fun k=>tribunalref03_Parse.f k (ba L)) z∧z.2.1.length≤4096∧z.2.2.1.length≤4096:=by
 have hR:=fun k=>ratio_halves L hL k
 have hF:=fun k=>ref_halves L Z0 k
 have hT:(Lib.trimPrefix L [45]).length≤L.length:=by
  unfold Lib.trimPrefix
  split
  ·rw[List.length_drop];omega
  exact Nat.le_refl _
 have hlen:(halves (Lib.trimPrefix L [45])).1.length≤20000∧(halves (Lib.trimPrefix L [45])).2.length≤20000:=by
  unfold halves
  split
  ·exact⟨by show(Lib.trimPrefix L [45]).length≤20000;omega,by show([49]:List UInt8).length≤20000;decide⟩
  exact⟨by show(List.take _ _).length≤20000;rw[List.length_take];omega,by show(List.drop _ _).length≤20000;rw[List.length_drop];omega⟩
 generalize (halves (Lib.trimPrefix L [45])).1=T at hR hF hlen
 generalize (halves (Lib.trimPrefix L [45])).2=D at hR hF hlen
 have hpre:∀_k:Nat,strings_HasPrefixG.f (ba L) (⟨#[45]⟩:ByteArray)=some (Lib.hasPrefix L [45]):=fun _=>rfl
 generalize Lib.hasPrefix L [45]=p at hF hpre
 obtain⟨lT,lD⟩:=hlen
 obtain⟨D1,⟨K1,e1⟩,N1⟩:=Read_good T Z0
 obtain⟨D2,⟨K2,e2⟩,N2⟩:=Read_good D Z0
 by_cases hg:(good T&&good D)=true
 ·rw[Bool.and_eq_true]at hg
  obtain⟨gT,gD⟩:=hg
  have n1:=N1 gT
  have n2:=N2 gD
  rw[gT]at e1
  rw[gD]at e2
  have hR1:∀k,ratio_Parse.f (k+1) (ba L)=ratio_Parse.j1 k (ba L) (ba T) (ba D):=fun k=>by rw[hR,gT,gD];rfl
  obtain⟨q1,⟨K3,e3⟩,M1,l1⟩:=Parse_good T lT gT
  obtain⟨q2,⟨K4,e4⟩,M2,l2⟩:=Parse_good D lD gD
  have ld1:=dv_len ((good_iff T).1 gT).2 n1
  have ld2:=dv_len ((good_iff D).1 gD).2 n2
  have R0:=n1.rep
  rw[Int.natAbs_natCast]at R0
  obtain⟨u,D',⟨K5,e5⟩,N5⟩:=rMake_rep R0 Z0 p rfl
  have n5:Num 65536 ((dv 0 T:Nat):Int) false D':=by
   have h:=N5.rep
   have:((if p=true then -((dv 0 T:Nat):Int) else((dv 0 T:Nat):Int)).natAbs:Int)=((dv 0 T:Nat):Int):=by split<;>omega
   rw[this]at h
   exact⟨by rw[Int.natAbs_natCast];exact h,(decide_eq_false Z0).symm⟩
  have hD':D'=D1:=by
   have h:=n5.rep
   exact h.uniq J0 n1.rep
  have c1:=len4' M1 n5 (by rw[hD'];omega)
  have c2:=len4' M2 n2 Z0
  obtain⟨K6,e6⟩:=long_num M1 Z0 false
  obtain⟨K7,e7⟩:=long_num M2 Z0 false
  have b1:=len_big M1
  have b2:=len_big M2
  rw[show decide (B1024≤(((dv 0 T:Nat):Int).natAbs:Int))=decide (1024<q1.length) from decide_eq_decide.2 Z0]at e6
  rw[show decide (B1024≤(((dv 0 D:Nat):Int).natAbs:Int))=decide (1024<q2.length) from decide_eq_decide.2 Z0]at e7
  have hj4:∀k,K1+K2+K5≤k→tribunalref03_Parse.f (k+1+1+2+L.length+1) (ba L)=(if 4096<D'.length then tribunalref03_Parse.j5 k true u D' false D2 else tribunalref03_Parse.j5 k (decide (4096<D2.length)) u D' false D2):=by
   intro k hk
   have g1:tribunalref02_Read.f (k+1) (ba T)=_:=e1 _ Z0
   have g2:tribunalref02_Read.f (k+1) (ba D)=_:=e2 _ Z0
   have g5:tribunalref02_Make.f k p D1=_:=e5 k Z0
   rw[hF,tribunalref03_Parse.j3,g1,Option.bind_some,g2,Option.bind_some,if_pos rfl,tribunalref03_Parse.j4,if_neg (show ¬((!true)=true) from by decide),g5,Option.bind_some]
   dsimp only
   rw[tribunalref03_long.f,Option.bind_some]
   by_cases h:4096<D'.length
   ·rw[if_pos (decide_eq_true Z0),if_pos h]
   rw[if_neg (by rw[decide_eq_true_eq];omega),if_neg h,tribunalref03_long.f,Option.bind_some]
   congr 1
   exact decide_eq_decide.2 Z0
  have hj3:∀k,K3+K4+K6+K7≤k→ratio_Parse.f (k+1+1+1) (ba L)=(if 1024<q1.length then ratio_Parse.j3 k (ba L) true false q1 false q2 else ratio_Parse.j3 k (ba L) (decide (1024<q2.length)) false q1 false q2):=by
   intro k hk
   have g3:whole_Parse.f (k+1) (ba T)=_:=e3 _ Z0
   have g4:whole_Parse.f (k+1) (ba D)=_:=e4 _ Z0
   have g6:ratio_number_long.f k false q1=_:=e6 k Z0
   have g7:ratio_number_long.f k false q2=_:=e7 k Z0
   rw[hR1,ratio_Parse.j1,g3,Option.bind_some,g4,Option.bind_some,if_pos rfl,show((0:Int) != 0)=false from rfl,ratio_Parse.j2,if_neg J0,g6,Option.bind_some]
   by_cases h:1024<q1.length
   ·rw[if_pos (decide_eq_true h),if_pos h]
   rw[if_neg (by rw[decide_eq_true_eq];exact h),if_neg h,g7,Option.bind_some]
  by_cases hl:1024<q1.length∨1024<q2.length
  ·refine⟨(false,[],[],5),⟨K3+K4+K6+K7+4,fun k hk=>?_⟩,⟨K1+K2+K5+L.length+6,fun k hk=>?_⟩,Z1,Z1⟩
   ·obtain⟨k,rfl⟩:∃j,k=j+1+1+1+1:=⟨k-4,Z0⟩
    refine(hj3 (k+1) Z0).trans ?_
    by_cases h:1024<q1.length
    ·rw[if_pos h,ratio_Parse.j3,if_pos rfl]
    rw[if_neg h,decide_eq_true Z0,ratio_Parse.j3,if_pos rfl]
   obtain⟨k,rfl⟩:∃j,k=(j+1)+1+1+2+L.length+1:=⟨k-6-L.length,Z0⟩
   refine(hj4 (k+1) Z0).trans ?_
   by_cases h:4096<D'.length
   ·rw[if_pos h,tribunalref03_Parse.j5,if_pos rfl]
   rw[if_neg h,decide_eq_true Z0,tribunalref03_Parse.j5,if_pos rfl]
  have s1:q1.length≤1024:=by omega
  have s2:q2.length≤1024:=by omega
  obtain⟨v,x,⟨K8,e8⟩,M8,l8⟩:∃v x,Ev (fun k=>if p=true then whole_Neg.f k false q1 else some (false,q1)) (v,x)∧Num 18446744073709551616 (if p=true then -((dv 0 T:Nat):Int) else((dv 0 T:Nat):Int)) v x∧x.length≤1024:=by
   cases p with
   | true=>
    obtain⟨v,x,E,M,l⟩:=(AN.of M1 s1 J0:AN 1024 _ _ _).neg J0
    exact⟨v,x,E,M,l⟩
   | false=>exact⟨false,q1,⟨0,fun _ _=>rfl⟩,M1,s1⟩
  obtain⟨O1,O2⟩:=Of_ev M8 M2 l8 s2
  have hof:∀z,Ev (fun k=>ratio_Of.f k v x false q2) z→Ev (fun k=>ratio_Parse.f k (ba L)) z:=by
   rintro z ⟨K9,e9⟩
   refine⟨K3+K4+K6+K7+K8+K9+4,fun k hk=>?_⟩
   obtain⟨k,rfl⟩:∃j,k=j+1+1+1+1:=⟨k-4,Z0⟩
   refine(hj3 (k+1) Z0).trans ?_
   have g8:(if p=true then whole_Neg.f k false q1 else some (false,q1))=some (v,x):=e8 k Z0
   have g9:ratio_Of.f k v x false q2=_:=e9 k Z0
   rw[if_neg Z0,decide_eq_false Z0,ratio_Parse.j3,if_neg J0,hpre k,Option.bind_some]
   cases p with
   | true=>
    rw[if_pos rfl]at g8
    rw[if_pos rfl,g8,Option.bind_some,g9,Option.bind_some]
   | false=>
    rw[if_neg J0]at g8
    obtain⟨rfl,rfl⟩:=Prod.mk.inj (Option.some.inj g8)
    rw[if_neg J0,g9,Option.bind_some]
  have hj5:∀k,K1+K2+K5≤k→tribunalref03_Parse.f (k+1+1+1+2+L.length+1) (ba L)=if(D2.length:Int)=0 then some (false,[],[],11) else((tribunalref03_To.f k u D' false D2).bind fun b=>some (b.1,b.2.1,b.2.2.1,b.2.2.2)):=by
   intro k hk
   refine(hj4 (k+1) Z0).trans ?_
   rw[if_neg Z0,decide_eq_false Z0,tribunalref03_Parse.j5,if_neg J0]
  by_cases he:dv 0 D=0
  ·have hz:D2=[]:=by
    have h:=n2
    rw[he]at h
    exact h.rep.uniq J0 (nil_num' _).rep
   refine⟨(false,[],[],11),hof _ (O1 he),⟨K1+K2+K5+L.length+6,fun k hk=>?_⟩,Z1,Z1⟩
   obtain⟨k,rfl⟩:∃j,k=j+1+1+1+2+L.length+1:=⟨k-6-L.length,Z0⟩
   refine(hj5 k Z0).trans ?_
   rw[hz];rfl
  obtain⟨a,b,c,d,E,F⟩:=O2 he
  obtain⟨a',b',c',d',⟨K9,e9⟩,F',hLg⟩:=To3_ev N5 n2 he Z0 Z0
  rw[hLg,if_neg J0]at E
  obtain⟨rfl,rfl,rfl,rfl⟩:=F.uniq F'
  have hne:¬((D2.length:Int)=0):=fun h=>he (by
   have:D2=[]:=List.length_eq_zero_iff.1 Z0
   have hv:=n2.rep.val
   rw[this,Int.natAbs_natCast]at hv
   have h0:val 65536 ([]:List Int)=0:=rfl
   omega)
  refine⟨(a,b,d,0),hof _ E,⟨K1+K2+K5+K9+L.length+6,fun k hk=>?_⟩,by have:=F.ln;show b.length≤4096;omega,by have:=F.ld;show d.length≤4096;omega⟩
  obtain⟨k,rfl⟩:∃j,k=j+1+1+1+2+L.length+1:=⟨k-6-L.length,Z0⟩
  refine(hj5 k Z0).trans ?_
  have g9:tribunalref03_To.f k u D' false D2=_:=e9 k Z0
  rw[if_neg hne,g9,Option.bind_some]
 refine⟨(false,[],[],13),⟨1,fun k hk=>?_⟩,⟨K1+K2+L.length+5,fun k hk=>?_⟩,Z1,Z1⟩
 ·obtain⟨k,rfl⟩:∃j,k=j+1:=⟨k-1,Z0⟩
  refine(hR k).trans ?_
  rw[if_neg hg]
 obtain⟨k,rfl⟩:∃j,k=j+1+1+2+L.length+1:=⟨k-5-L.length,Z0⟩
 refine(hF (k+1+1)).trans ?_
 have g1:tribunalref02_Read.f (k+1) (ba T)=_:=e1 _ Z0
 have g2:tribunalref02_Read.f (k+1) (ba D)=_:=e2 _ Z0
 rw[tribunalref03_Parse.j3,g1,Option.bind_some,g2,Option.bind_some]
 dsimp only
 by_cases gT:good T=true
 ·have gD:good D=false:=by
   cases h:good D with
   | false=>rfl
   | true=>exact absurd (by rw[gT,h];rfl) hg
  rw[if_pos gT,gD,tribunalref03_Parse.j4,if_pos F1]
 rw[if_neg gT,tribunalref03_Parse.j4,if_pos rfl]
end Go.Proofs.YtncomlmhagaajaaGreatDoor.PurePRp
namespace Go.Proofs.YtncomlmhagaajaaGreatDoor.Pure
open Go.RowKit Go.Proofs.YtncomlmhagaajaaGreatDoorW.PrintWords Go.Proofs.YtncomlmhagaajaaGreatDoorW.PrintLast Go.Proofs.YtncomlmhagaajaaGreatDoorW.PrintMore Go.Proofs.YtncomlmhagaajaaGreatDoor.PRp Go.Proofs.YtncomlmhagaajaaGreatDoor Go.Proofs.YtncomlmhagaajaaGreatDoor.Mine Big PurePRp
theorem ratioParses_pure (a0:ByteArray):∃k,PRp.tribunallaw03_RatioParses.f k a0=some true:=by
 have g0:tribunallaw03_alive.f 80=some true:=by kernel_rfl
 by_cases hs:(a0.size:Int)>20000
 ·refine⟨0,?_⟩
  rw[tribunallaw03_RatioParses.f,if_pos hs,g0,Option.bind_some]
 obtain⟨L,rfl⟩:∃L,a0=ba L:=⟨_,(ba_of a0).symm⟩
 rw[ba_size]at hs
 obtain⟨z,⟨K1,e1⟩,⟨K2,e2⟩,l1,l2⟩:=parse_both L Z0
 obtain⟨K3,e3⟩:=Same3_ev z.1 z.2.1 z.2.2.1 Z0 Z0
 refine⟨K1+K2+K3,?_⟩
 obtain⟨k,hk⟩:∃k,k=K1+K2+K3:=⟨_,rfl⟩
 rw[←hk]
 have g1:ratio_Parse.f k (ba L)=_:=e1 _ Z0
 have g2:tribunalref03_Parse.f k (ba L)=_:=e2 _ Z0
 have g3:tribunalref03_Same.f k z.1 z.2.1 z.2.2.1 z.1 z.2.1 z.2.2.1=_:=e3 _ Z0
 rw[tribunallaw03_RatioParses.f,if_neg D5,g1,Option.bind_some,g2,Option.bind_some,g3,Option.bind_some,if_pos rfl,if_pos rfl,g0,Option.bind_some]
end Go.Proofs.YtncomlmhagaajaaGreatDoor.Pure
