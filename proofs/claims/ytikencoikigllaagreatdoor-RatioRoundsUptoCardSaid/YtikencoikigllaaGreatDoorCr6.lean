/- Part 6 of what the card rests on. -/
import Derived.Test.YtikencoikigllaaGreatDoorCr5
set_option maxHeartbeats 8000000
set_option maxRecDepth 100000
set_option linter.unusedVariables false
set_option linter.unusedSimpArgs false
namespace Go.Proofs.YtikencoikigllaaGreatDoor.PurePRy
set_option linter.unusedVariables false
set_option linter.unusedSimpArgs false
open Go.RowKit Go.Proofs.YtikencoikigllaaGreatDoorW.PrintWords Go.Proofs.YtikencoikigllaaGreatDoorW.PrintLast Go.Proofs.YtikencoikigllaaGreatDoorW.PrintMore Go.Proofs.YtikencoikigllaaGreatDoor.PRy Go.Proofs.YtikencoikigllaaGreatDoor Go.Proofs.YtikencoikigllaaGreatDoor.Mine Big
theorem natTrim_eq:∀(k:Nat) (x:List Int) (n:Int),nat_trim.l0 k x n=whole_trimmed.l0 k x n
 | 0,_,_=>rfl
 | k+1,x,n=>by rw[nat_trim.l0,whole_trimmed.l0,natTrim_eq k]
theorem natTrim_f (k:Nat) (l:List Int):nat_trim.f k l=whole_trimmed.f k l:=natTrim_eq k l _
theorem bitLen_pos {x:Nat} (h:x≠0) (hx:x<18446744073709551616):1≤Lib.bitLen x:=by
 rw[Lib.bitLen_half x h hx];omega
theorem bitLenAux_le:∀(f x:Nat),Lib.bitLenAux f x≤f
 | 0,_=>by simp[Lib.bitLenAux]
 | f+1,x=>by
  have:=bitLenAux_le f (x/2)
  unfold Lib.bitLenAux
  split<;>omega
theorem top_get {a:List Int} (ht:Top a) (h0:0<a.length):a[a.length-1]≠0:=by
 have h:=(Top_iff a).1 ht (List.length_pos_iff.1 h0)
 rwa [List.getLast_eq_getElem]at h
theorem limbs (l:List Int) (hl:l.length≤1048576) (hd:Dig 18446744073709551616 l) :
  ∃a N,(∀s,Ev (fun k=>whole_of.f k s l) (a,s&&decide (0<a.length)))∧Ev (fun k=>nat_Len.f k l) N∧Rep 18446744073709551616 (val 18446744073709551616 l) a∧a.length≤l.length∧(N=0↔a=[])∧(N>65536↔1024<a.length):=by
 obtain⟨m,hm,he,ht,hv⟩:=whole_trimmed_l0 l (by omega) l.length (l.length+1) (Nat.le_refl _) (by omega)
 obtain⟨K,hr⟩:=Ev.of (fun k=>whole_trimmed.mono l k) he
 have R:Rep 18446744073709551616 (val 18446744073709551616 l) (l.take m):=⟨hd.take m,ht,by rw[hv,List.take_length]⟩
 have hlen:(l.take m).length≤l.length:=by rw[List.length_take];omega
 refine⟨l.take m,if l.take m=[] then 0 else 64*((l.take m).length-1:Int)+Lib.bitLen ((l.take m).getD ((l.take m).length-1) 0).toNat,fun s=>⟨K,fun k hk=>?_⟩,⟨K,fun k hk=>?_⟩,R,hlen,?_,?_⟩
 ·simp only[whole_of.f,hr k hk,Option.bind_some]
  cases s
  ·simp
  simp only[whole_amount_null.f,Option.bind_some,if_true]
  congr 2
  cases h:l.take m<;>simp<;>omega
 all_goals generalize hA:l.take m=a at *
 ·show nat_Len.f k l=_
  have hr':whole_trimmed.f k l=_:=hr k hk
  rw[nat_Len.f,natTrim_f,hr',Option.bind_some]
  by_cases h0:a=[]
  ·subst h0;simp
  have hp:=List.length_pos_iff.2 h0
  have hw:wrap64 ((a.length:Int)-1)=((a.length-1:Nat):Int):=by rw[w64 _ (by omega)];omega
  have hg:=R.dig.get (a.length-1) (by omega)
  rw[if_neg (by omega),hw,if_pos (by omega),if_pos (by omega),if_neg h0]
  have e:rd a ((a.length-1:Nat):Int)=a[a.length-1]:=by
   unfold rd
   rw[Int.toNat_natCast,List.getD_eq_getElem?_getD,List.getElem?_eq_getElem (by omega)];rfl
  have e2:a.getD (a.length-1) 0=a[a.length-1]:=by
   rw[List.getD_eq_getElem?_getD,List.getElem?_eq_getElem (by omega)];rfl
  rw[e,e2,bits_Len64.f,if_pos ⟨hg.1,by omega⟩,Option.bind_some]
  have hb:=bitLenAux_le 64 a[a.length-1].toNat
  have hb':Lib.bitLen a[a.length-1].toNat≤64:=hb
  rw[w64 (64*((a.length-1:Nat):Int)) (by omega),w64 _ (by omega)]
  congr 1
  omega
 ·by_cases h0:a=[]
  ·simp[h0]
  have hp:=List.length_pos_iff.2 h0
  rw[if_neg h0]
  have hg:=R.dig.get (a.length-1) (by omega)
  have e2:a.getD (a.length-1) 0=a[a.length-1]:=by
   rw[List.getD_eq_getElem?_getD,List.getElem?_eq_getElem (by omega)];rfl
  have ht0:=top_get ht hp
  have:=bitLen_pos (x:=a[a.length-1].toNat) (by omega) (by omega)
  rw[e2]
  constructor
  ·intro h;omega
  intro h;exact absurd h h0
 by_cases h0:a=[]
 ·subst h0;simp
 have hp:=List.length_pos_iff.2 h0
 rw[if_neg h0]
 have hg:=R.dig.get (a.length-1) (by omega)
 have e2:a.getD (a.length-1) 0=a[a.length-1]:=by
  rw[List.getD_eq_getElem?_getD,List.getElem?_eq_getElem (by omega)];rfl
 have ht0:=top_get ht hp
 have h1:=bitLen_pos (x:=a[a.length-1].toNat) (by omega) (by omega)
 have h2:Lib.bitLen a[a.length-1].toNat≤64:=bitLenAux_le 64 a[a.length-1].toNat
 rw[e2]
 omega
theorem rat_low (n:Int) (d:Nat) (hd:d≠0):(mkRat n d).num=qn n ((Nat.gcd n.natAbs d:Nat):Int)∧((mkRat n d).den:Int)=qn (d:Int) ((Nat.gcd n.natAbs d:Nat):Int):=by
 have hg:Nat.gcd n.natAbs d≠0:=fun h=>hd (Nat.gcd_eq_zero_iff.1 h).2
 rw[←Rat.normalize_eq_mkRat hd,Rat.num_normalize,Rat.den_normalize]
 generalize hG:Nat.gcd n.natAbs d=g at *
 have h1:g ∣ n.natAbs:=hG ▸ Nat.gcd_dvd_left _ _
 constructor
 ·show n/(g:Int)=_
  unfold qn
  rw[show decide ((g:Int)<0)=false from decide_eq_false (by omega),Int.natAbs_natCast]
  rcases Int.lt_or_le n 0 with h|h
  ·rw[decide_eq_true h,if_pos (by decide)]
   obtain⟨c,hc⟩:=h1
   have:n = -((g:Int)*(c:Int)):=by rw[←Int.natCast_mul,←hc];omega
   rw[this,Int.natAbs_neg,Int.natAbs_mul,Int.natAbs_natCast,Int.natAbs_natCast,←Int.mul_neg,Int.mul_ediv_cancel_left _ (by omega),Int.natCast_mul,Int.mul_ediv_cancel_left _ (by omega)]
  rw[decide_eq_false (by omega),if_neg (by decide),show((n.natAbs:Nat):Int)=n from by omega]
 show(((d/g:Nat)):Int)=_
 unfold qn
 rw[decide_eq_false (by omega),decide_eq_false (by omega),if_neg (by decide),Int.natAbs_natCast,Int.natAbs_natCast,Int.natCast_ediv]
def FA (L:Nat) (r:Rat) (s:Bool) (l:List Int) (t:Bool) (p:List Int):Prop:=∃(n:Int) (d:Nat),AN L n s l∧AN L (d:Int) t p∧d≠0∧r=mkRat n d
structure FQ (L:Nat) (r:Rat) (s:Bool) (l:List Int) (t:Bool) (p:List Int):Prop where
 n:Num 18446744073709551616 r.num s l
 d:Num 18446744073709551616 (r.den:Int) t p
 ln:l.length≤L
 ld:p.length≤L
theorem FQ.a {L:Nat} {r:Rat} {s t:Bool} {l p:List Int} (h:FQ L r s l t p) (hL:L≤1048576):FA L r s l t p:=
 ⟨r.num,r.den,AN.of h.n h.ln hL,AN.of h.d h.ld hL,r.den_nz,(Rat.mkRat_self r).symm⟩
theorem FA.up {L L':Nat} {r:Rat} {s t:Bool} {l p:List Int} (h:FA L r s l t p) (hL:L≤L'):FA L' r s l t p:=by
 obtain⟨n,d,a,b,c,e⟩:=h
 exact⟨n,d,a.up hL,b.up hL,c,e⟩
theorem FQ.t {L:Nat} {r:Rat} {s t:Bool} {l p:List Int} (h:FQ L r s l t p):t=false:=by
 rw[h.d.sign];exact decide_eq_false (by omega)
section
variable {L:Nat} {r q:Rat} {s t u v:Bool} {l p x y:List Int}
theorem fr_low_ev (h:FA L r s l t p) (hL:L≤4000):∃a b c d,Ev (fun k=>ratio_fraction_low.f k s l t p) (a,b,c,d)∧FQ L r a b c d:=by
 obtain⟨n,m,A,D,hm,rfl⟩:=h
 obtain⟨g,⟨K1,e1⟩,G⟩:=Gcd_two (by omega) A D
 rw[Int.natAbs_natCast]at G
 have hg:Nat.gcd n.natAbs m≠0:=fun h=>hm (Nat.gcd_eq_zero_iff.1 h).2
 have lg:g.length≤L:=by
  obtain⟨a,s2,_,N2,l2⟩:=D
  have h1:=Nat.gcd_le_right n.natAbs (show 0<m by omega)
  have:=len_small (by decide) N2 G (by omega)
  omega
 have GA:=AN.of G lg (by omega)
 obtain⟨a,b,_,_,⟨K2,e2⟩,Q1,_,l1,_⟩:=A.quo GA (by omega) hL hL
 obtain⟨c,d,_,_,⟨K3,e3⟩,Q2,_,l2,_⟩:=D.quo GA (by omega) hL hL
 obtain⟨i1,i2⟩:=rat_low n m hm
 rw[←i1]at Q1
 rw[←i2]at Q2
 refine⟨a,b,c,d,⟨K1+K2+K3,fun k hk=>?_⟩,⟨Q1,Q2,l1,l2⟩⟩
 have g1:whole_Gcd.f k [⟨s,l⟩,⟨t,p⟩]=_:=e1 k (by omega)
 have g2:whole_Quo.f k s l false g=_:=e2 k (by omega)
 have g3:whole_Quo.f k t p false g=_:=e3 k (by omega)
 show ratio_fraction_low.f k s l t p=_
 rw[ratio_fraction_low.f,g1,Option.bind_some,g2,Option.bind_some,g3,Option.bind_some]
end
structure Arg (c:Int) (r:Rat) (s:Bool) (l p:List Int):Prop where
 made:Ev (fun k=>ratio_made.f k s l p) (if c=0 then(s,l,false,p,0) else(false,[],false,[],c))
 len:∃N,Ev (fun k=>nat_Len.f k p) N∧(N=0↔c=11)
 is:c=0∨c=5∨c=11
 fr:c=0→FA 1024 r s l false p
theorem Arg.mk' (s:Bool) (l p:List Int) (hl:l.length≤1048576) (hp:p.length≤1048576) (dl:Dig 18446744073709551616 l) (dp:Dig 18446744073709551616 p):∃c r,Arg c r s l p:=by
 obtain⟨a,N,E1,⟨K1,e1⟩,R1,l1,_,h1⟩:=limbs l hl dl
 obtain⟨b,M,E2,⟨K2,e2⟩,R2,l2,z2,h2⟩:=limbs p hp dp
 have m0:∀k,K1+K2≤k→ratio_made.f k s l p=if M=0 then some (false,[],false,[],11) else if N>65536 then some (false,[],false,[],5) else if M>65536 then some (false,[],false,[],5) else some (s,l,false,p,0):=by
  intro k hk
  have g1:nat_Len.f k l=_:=e1 k (by omega)
  have g2:nat_Len.f k p=_:=e2 k (by omega)
  rw[ratio_made.f,g2,Option.bind_some]
  by_cases c1:M=0
  ·rw[if_pos c1,if_pos c1]
  rw[if_neg c1,if_neg c1,ratio_number_long.f,g1,Option.bind_some,Option.bind_some]
  by_cases c2:N>65536
  ·rw[if_pos (by simpa using c2),if_pos c2]
  rw[if_neg (by simpa using c2),if_neg c2,ratio_number_long.f,g2,Option.bind_some,Option.bind_some]
  by_cases c3:M>65536
  ·rw[if_pos (by simpa using c3),if_pos c3]
  rw[if_neg (by simpa using c3),if_neg c3]
 by_cases c1:M=0
 ·exact⟨11,0,⟨K1+K2,fun k hk=>by rw[if_neg (by decide)];exact(m0 k hk).trans (if_pos c1)⟩,⟨M,⟨K2,e2⟩,by simp[c1]⟩,by simp,fun h=>absurd h (by decide)⟩
 by_cases c2:N>65536
 ·exact⟨5,0,⟨K1+K2,fun k hk=>by rw[if_neg (by decide)];exact((m0 k hk).trans (if_neg c1)).trans (if_pos c2)⟩,⟨M,⟨K2,e2⟩,by simp[c1]⟩,by simp,fun h=>absurd h (by decide)⟩
 by_cases c3:M>65536
 ·exact⟨5,0,⟨K1+K2,fun k hk=>by rw[if_neg (by decide)];exact(((m0 k hk).trans (if_neg c1)).trans (if_neg c2)).trans (if_pos c3)⟩,⟨M,⟨K2,e2⟩,by simp[c1]⟩,by simp,fun h=>absurd h (by decide)⟩
 have hv1:=R1.nonneg (by decide)
 have hv2:=R2.nonneg (by decide)
 have hne:val 18446744073709551616 p≠0:=fun h=>c1 (z2.2 ((R2.nil_iff (by decide)).2 h))
 have A1:AN 1024 (if s=true then -(val 18446744073709551616 l) else val 18446744073709551616 l) s l:=⟨a,_,E1 s,Num.of_rep (by decide) R1 s,by omega⟩
 have A2:AN 1024 ((val 18446744073709551616 p).toNat:Int) false p:=⟨b,_,E2 false,by have:=Num.of_rep (by decide) R2 false;rwa [if_neg (by decide),show val 18446744073709551616 p=((val 18446744073709551616 p).toNat:Int) from by omega]at this,by omega⟩
 exact⟨0,mkRat (if s=true then -(val 18446744073709551616 l) else val 18446744073709551616 l) (val 18446744073709551616 p).toNat,⟨K1+K2,fun k hk=>by rw[if_pos rfl];exact(((m0 k hk).trans (if_neg c1)).trans (if_neg c2)).trans (if_neg c3)⟩,⟨M,⟨K2,e2⟩,by simp[c1]⟩,by simp,fun _=>⟨_,_,A1,A2,by omega,rfl⟩⟩
end Go.Proofs.YtikencoikigllaaGreatDoor.PurePRy
namespace Go.Proofs.YtikencoikigllaaGreatDoor.PurePRy
set_option linter.unusedVariables false
set_option linter.unusedSimpArgs false
open Go.RowKit Go.Proofs.YtikencoikigllaaGreatDoorW.PrintWords Go.Proofs.YtikencoikigllaaGreatDoorW.PrintLast Go.Proofs.YtikencoikigllaaGreatDoorW.PrintMore Go.Proofs.YtikencoikigllaaGreatDoor.PRy Go.Proofs.YtikencoikigllaaGreatDoor Go.Proofs.YtikencoikigllaaGreatDoor.Mine Big
theorem told_eq (s:Bool) (l:List Int):whole_number_told.f l s=some (if l.length>4096 then(false,[],5) else(s,l,0)):=by
 by_cases hc:l.length>4096
 ·simp only[whole_number_told.f,whole_number_long.f,Option.bind_some]
  rw[if_pos (by simp;omega),if_pos hc]
 simp only[whole_number_told.f,whole_number_long.f,Option.bind_some]
 rw[if_neg (by simp;omega),if_neg hc,whole_number_out.f,api_Nat_uint64.f,if_pos (by omega),Option.bind_some,Option.bind_some]
def ro (n m:Int) (up:Bool):Int:=if rn n m=0 then qn n m else if up=true then(if decide (n<0)=decide (m<0) then qn n m+1 else qn n m) else(if decide (n<0)=decide (m<0) then qn n m else qn n m-1)
theorem rn_sign {n m:Int} (hm:m≠0) (h:rn n m≠0):decide (rn n m<0)=decide (n<0):=by
 have h1:=rn_abs n hm
 have h2:0≤(n.natAbs:Int)%(m.natAbs:Int):=Int.emod_nonneg _ (by omega)
 unfold rn at h ⊢
 by_cases hn:n<0
 ·rw[if_pos (decide_eq_true hn)]at h ⊢
  rw[decide_eq_true hn];exact decide_eq_true (by omega)
 rw[if_neg (by simpa using hn)]at h ⊢
 rw[decide_eq_false hn];exact decide_eq_false (by omega)
theorem rounded_ev {n m:Int} {s t:Bool} {a b:List Int} (ha:Num 18446744073709551616 n s a) (hb:Num 18446744073709551616 m t b) (hm:m≠0) (la:a.length≤1048576) (lb:b.length≤1048576) {x:Bool} {l:List Int} {y:Bool} {p:List Int} (h1:Ev (fun k=>whole_of.f k x l) (a,s)) (h2:Ev (fun k=>whole_of.f k y p) (b,t)) (up:Bool) :
  ∃u q,Num 18446744073709551616 (ro n m up) u q∧Ev (fun k=>whole_rounded.f k x l y p up) (if q.length>4096 then(false,[],5) else(u,q,0)):=by
 obtain⟨K1,e1⟩:=h1
 obtain⟨K2,e2⟩:=h2
 obtain⟨u,q,v,r,⟨K3,e3⟩,N3,N4⟩:=cut_num ha hb hm (by omega) (by omega)
 have hne:¬decide (b=[])=true:=by simpa using fun h=>hm ((num_nil (by decide) hb).1 h)
 have lq:=len_small (by decide) ha N3 (qn_le n m)
 have sv:=N4.sign
 have ss:=ha.sign
 have st:=hb.sign
 obtain⟨o1,No⟩:=one_num
 have inil:=num_nil (by decide) N4
 have hd:∀k,K1+K2+K3≤k→whole_rounded.f k x l y p up=(if decide (r=[])=true then(whole_number_told.f q u).bind fun z=>some (z.1,z.2.1,z.2.2) else if up=true then whole_rounded.j0 k up (v==t) b t q u r v else whole_rounded.j0 k up false b t q u r v):=by
  intro k hk
  have g1:whole_of.f k x l=_:=e1 k (by omega)
  have g2:whole_of.f k y p=_:=e2 k (by omega)
  have g3:whole_number_cut.f k a s b t=_:=e3 k (by omega)
  rw[whole_rounded.f,g2,Option.bind_some,null_eq,Option.bind_some,if_neg hne,g1,Option.bind_some,g3,Option.bind_some,null_eq,Option.bind_some]
 by_cases hr0:rn n m=0
 ·refine⟨u,q,by unfold ro;rw[if_pos hr0];exact N3,⟨K1+K2+K3,fun k hk=>?_⟩⟩
  show whole_rounded.f k x l y p up=_
  rw[hd k hk,if_pos (decide_eq_true (inil.2 hr0)),told_eq,Option.bind_some]
 have hrn:¬decide (r=[])=true:=by simpa using fun h=>hr0 (inil.1 h)
 have hvs:v=s:=by rw[sv,ss];exact rn_sign hm hr0
 obtain⟨u2,q2,⟨K4,e4⟩,N5⟩:=plus_num N3 No (by omega) (by simp)
 obtain⟨u3,q3,⟨K5,e5⟩,N6⟩:=minus_num N3 No (by omega) (by simp)
 by_cases hst:decide (n<0)=decide (m<0)
 ·have hst':v=t:=by rw[hvs,ss,st];exact hst
  cases up with
  | true=>
   refine⟨u2,q2,by unfold ro;rw[if_neg hr0,if_pos rfl,if_pos hst];exact N5,⟨K1+K2+K3+K4+1,fun k hk=>?_⟩⟩
   obtain⟨k,rfl⟩:∃j,k=j+1:=⟨k-1,by omega⟩
   have g4:whole_number_plus.f k q u [1] false=_:=e4 k (by omega)
   show whole_rounded.f (k+1) x l y p true=_
   rw[hd (k+1) (by omega),if_neg hrn,if_pos rfl,whole_rounded.j0,if_pos (by rw[hst'];exact beq_self_eq_true t),o1,Option.bind_some,g4,Option.bind_some,told_eq,Option.bind_some]
  | false=>
   refine⟨u,q,by unfold ro;rw[if_neg hr0,if_neg (by decide),if_pos hst];exact N3,⟨K1+K2+K3+K4+2,fun k hk=>?_⟩⟩
   obtain⟨k,rfl⟩:∃j,k=j+2:=⟨k-2,by omega⟩
   show whole_rounded.f (k+1+1) x l y p false=_
   rw[hd (k+1+1) (by omega),if_neg hrn,if_neg (by decide),whole_rounded.j0,if_neg (by decide),if_neg (by decide),whole_rounded.j1,if_neg (by rw[hst'];simp),told_eq,Option.bind_some]
 have hst':¬v=t:=by rw[hvs,ss,st];exact hst
 cases up with
 | true=>
  refine⟨u,q,by unfold ro;rw[if_neg hr0,if_pos rfl,if_neg hst];exact N3,⟨K1+K2+K3+K4+2,fun k hk=>?_⟩⟩
  obtain⟨k,rfl⟩:∃j,k=j+2:=⟨k-2,by omega⟩
  show whole_rounded.f (k+1+1) x l y p true=_
  rw[hd (k+1+1) (by omega),if_neg hrn,if_pos rfl,whole_rounded.j0,if_neg (by simpa using hst'),if_pos rfl,whole_rounded.j1,if_neg (by decide),told_eq,Option.bind_some]
 | false=>
  refine⟨u3,q3,by unfold ro;rw[if_neg hr0,if_neg (by decide),if_neg hst];exact N6,⟨K1+K2+K3+K5+2,fun k hk=>?_⟩⟩
  obtain⟨k,rfl⟩:∃j,k=j+2:=⟨k-2,by omega⟩
  have g5:whole_number_minus.f k q u [1] false=_:=e5 k (by omega)
  show whole_rounded.f (k+1+1) x l y p false=_
  rw[hd (k+1+1) (by omega),if_neg hrn,if_neg (by decide),whole_rounded.j0,if_neg (by decide),if_neg (by decide),whole_rounded.j1,if_pos (by simpa using hst'),o1,Option.bind_some,g5,Option.bind_some,told_eq,Option.bind_some]
theorem AN.rounded {L L':Nat} {n m:Int} {s t:Bool} {l p:List Int} (h:AN L n s l) (g:AN L' m t p) (hm:m≠0) (hL:L≤4000) (hL':L'≤4000) (up:Bool):∃u q,Ev (fun k=>whole_rounded.f k s l t p up) (u,q,0)∧Num 18446744073709551616 (ro n m up) u q∧q.length≤L+1:=by
 obtain⟨a,s1,E1,N1,l1⟩:=h
 obtain⟨b,s2,E2,N2,l2⟩:=g
 obtain⟨u,q,N3,hW⟩:=rounded_ev N1 N2 hm (by omega) (by omega) E1 E2 up
 obtain⟨o1,No⟩:=one_num
 have h1:=qn_le n m
 have h2:((ro n m up).natAbs:Int)≤n.natAbs+1:=by
  unfold ro
  split
  ·omega
  split
  ·split<;>omega
  split<;>omega
 have hq:q.length≤L+1:=by
  by_cases h0:a.length=0
  ·have hn:n=0:=(num_nil (by decide) N1).1 (List.length_eq_zero_iff.1 h0)
   have:=len_small (by decide) No N3 (by omega)
   simp at this
   omega
  have:=num_len (by decide) N1 No N3 (by omega) (L:=max a.length 1) (by omega) (by simp;omega)
  omega
 rw[if_neg (by omega)]at hW
 exact⟨u,q,hW,N3,hq⟩
theorem sg_eq_zero (n:Int):sg n=0↔n=0:=by
 rcases Int.lt_trichotomy n 0 with h|h|h
 ·rw[sg_neg h];omega
 ·rw[sg_zero h];omega
 rw[sg_pos h];omega
end Go.Proofs.YtikencoikigllaaGreatDoor.PurePRy
namespace Go.Proofs.YtikencoikigllaaGreatDoor.PurePRy
set_option linter.unusedVariables false
set_option linter.unusedSimpArgs false
open Go.RowKit Go.Proofs.YtikencoikigllaaGreatDoorW.PrintWords Go.Proofs.YtikencoikigllaaGreatDoorW.PrintLast Go.Proofs.YtikencoikigllaaGreatDoorW.PrintMore Go.Proofs.YtikencoikigllaaGreatDoor.PRy Go.Proofs.YtikencoikigllaaGreatDoor Go.Proofs.YtikencoikigllaaGreatDoor.Mine Big
section
variable {n:Int} {d:Nat} {s:Bool} {l p:List Int}
theorem Floor_arg (hm:Ev (fun k=>ratio_made.f k s l p) (s,l,false,p,0)) (A:AN 1024 n s l) (D:AN 1024 (d:Int) false p) (hd:d≠0):∃u q,Ev (fun k=>ratio_Floor.f k s l p) (u,q,0)∧Num 18446744073709551616 (ro n d false) u q∧q.length≤1025:=by
 obtain⟨K1,e1⟩:=hm
 obtain⟨u,q,⟨K2,e2⟩,N,l2⟩:=A.rounded D (by omega) (by omega) (by omega) false
 refine⟨u,q,⟨K1+K2,fun k hk=>?_⟩,N,l2⟩
 have g1:ratio_made.f k s l p=_:=e1 k (by omega)
 have g2:whole_rounded.f k s l false p false=_:=e2 k (by omega)
 show ratio_Floor.f k s l p=_
 rw[ratio_Floor.f,g1,Option.bind_some,if_pos (by exact rfl),whole_Floor.f,g2,Option.bind_some,Option.bind_some]
theorem Ceil_arg (hm:Ev (fun k=>ratio_made.f k s l p) (s,l,false,p,0)) (A:AN 1024 n s l) (D:AN 1024 (d:Int) false p) (hd:d≠0):∃u q,Ev (fun k=>ratio_Ceil.f k s l p) (u,q,0)∧Num 18446744073709551616 (ro n d true) u q∧q.length≤1025:=by
 obtain⟨K1,e1⟩:=hm
 obtain⟨u,q,⟨K2,e2⟩,N,l2⟩:=A.rounded D (by omega) (by omega) (by omega) true
 refine⟨u,q,⟨K1+K2,fun k hk=>?_⟩,N,l2⟩
 have g1:ratio_made.f k s l p=_:=e1 k (by omega)
 have g2:whole_rounded.f k s l false p true=_:=e2 k (by omega)
 show ratio_Ceil.f k s l p=_
 rw[ratio_Ceil.f,g1,Option.bind_some,if_pos (by exact rfl),whole_Ceil.f,g2,Option.bind_some,Option.bind_some]
end
end Go.Proofs.YtikencoikigllaaGreatDoor.PurePRy
namespace Go.Proofs.YtikencoikigllaaGreatDoor.PurePRy
set_option linter.unusedVariables false
set_option linter.unusedSimpArgs false
open Go.RowKit Go.Proofs.YtikencoikigllaaGreatDoorW.PrintWords Go.Proofs.YtikencoikigllaaGreatDoorW.PrintLast Go.Proofs.YtikencoikigllaaGreatDoorW.PrintMore Go.Proofs.YtikencoikigllaaGreatDoor.PRy Go.Proofs.YtikencoikigllaaGreatDoor Go.Proofs.YtikencoikigllaaGreatDoor.Mine Big
theorem Ev.eq' {α:Type} {f:Nat→Option α} {x y:α} (h:Ev f x) (g:Ev f y):x=y:=by
 obtain⟨K1,e1⟩:=h
 obtain⟨K2,e2⟩:=g
 have h1:=e1 (K1+K2) (by omega)
 have h2:=e2 (K1+K2) (by omega)
 rw[h1]at h2
 exact Option.some.inj h2
theorem num_inj {B n m:Int} {s:Bool} {l:List Int} (h:Num B n s l) (g:Num B m s l):n=m:=by
 have h1:=h.rep.val.symm.trans g.rep.val
 have h2:=h.sign.symm.trans g.sign
 by_cases hn:n<0
 ·have:m<0:=by rw[decide_eq_true hn]at h2;exact of_decide_eq_true h2.symm
  omega
 have:¬m<0:=by rw[decide_eq_false hn]at h2;exact of_decide_eq_false h2.symm
 omega
theorem len4' {n:Int} {s u:Bool} {a d:List Int} (h:Num 18446744073709551616 n s a) (g:Num 65536 n u d) (hd:d.length≤8388608):d.length≤4*a.length∧4*a.length<d.length+4:=by
 obtain⟨r,_,h1,h2,h3,h4,h5⟩:=To_ev d u hd g.rep.dig g.rep.top
 obtain rfl:=h.rep.uniq (by decide) (⟨h1,h2,h3.trans g.rep.val⟩:Rep 18446744073709551616 _ r)
 exact⟨h4,h5⟩
theorem ArgR (s:Bool) (l p:List Int) (hl:l.length≤1048576) (hp:p.length≤1048576) (dl:Dig 18446744073709551616 l) (dp:Dig 18446744073709551616 p) :
  ∃c r,Arg c r s l p∧(c=0∨Ev (fun k=>tribunalref03_From.f k s l p) (false,[],false,[],c))∧(c=0→∃(n:Int) (d:Nat) (u:Bool) (q t:List Int),AN 1024 n s l∧AN 1024 (d:Int) false p∧d≠0∧r=mkRat n d∧Ev (fun k=>tribunalref03_From.f k s l p) (u,q,false,t,0)∧Num 65536 n u q∧Num 65536 (d:Int) false t∧q.length≤4096∧t.length≤4096):=by
 obtain⟨c,r,A⟩:=Arg.mk' s l p hl hp dl dp
 obtain⟨a,N,E1,⟨K1,e1⟩,R1,l1,_,h1⟩:=limbs l hl dl
 obtain⟨b,M,E2,⟨K2,e2⟩,R2,l2,z2,h2⟩:=limbs p hp dp
 obtain⟨n,s1,a',q,X1,⟨J1,f1⟩,N1,M1,_,y1⟩:=arg_num s l hl dl
 obtain⟨m,s2,b',t,X2,⟨J2,f2⟩,N2,M2,_,y2⟩:=arg_num false p hp dp
 obtain⟨rfl,-⟩:=Prod.mk.inj (X1.eq' (E1 s))
 obtain⟨rfl,es2⟩:=Prod.mk.inj (X2.eq' (E2 false))
 obtain rfl:s2=false:=by rw[es2];rfl
 have m0:∀k,K1+K2≤k→ratio_made.f k s l p=if M=0 then some (false,[],false,[],11) else if N>65536 then some (false,[],false,[],5) else if M>65536 then some (false,[],false,[],5) else some (s,l,false,p,0):=by
  intro k hk
  have g1:nat_Len.f k l=_:=e1 k (by omega)
  have g2:nat_Len.f k p=_:=e2 k (by omega)
  rw[ratio_made.f,g2,Option.bind_some]
  by_cases c1:M=0
  ·rw[if_pos c1,if_pos c1]
  rw[if_neg c1,if_neg c1,ratio_number_long.f,g1,Option.bind_some,Option.bind_some]
  by_cases c2:N>65536
  ·rw[if_pos (by simpa using c2),if_pos c2]
  rw[if_neg (by simpa using c2),if_neg c2,ratio_number_long.f,g2,Option.bind_some,Option.bind_some]
  by_cases c3:M>65536
  ·rw[if_pos (by simpa using c3),if_pos c3]
  rw[if_neg (by simpa using c3),if_neg c3]
 obtain⟨q1,q2⟩:=len4' N1 M1 (by omega)
 obtain⟨q3,q4⟩:=len4' N2 M2 (by omega)
 have t0:t=[]↔M=0:=by
  rw[z2]
  constructor
  ·intro h
   have:t.length=0:=by rw[h];rfl
   exact List.length_eq_zero_iff.1 (by omega)
  intro h
  have:b'.length=0:=by rw[h];rfl
  exact List.length_eq_zero_iff.1 (by omega)
 have hF:∀k,J1+J2≤k→tribunalref03_From.f k s l p=if M=0 then some (false,[],false,[],11) else if N>65536 then some (false,[],false,[],5) else if M>65536 then some (false,[],false,[],5) else some (s1,q,false,t,0):=by
  intro k hk
  have g1:tribunalref02_From.f k s l=_:=f1 k (by omega)
  have g2:tribunalref02_From.f k false p=_:=f2 k (by omega)
  rw[tribunalref03_From.f,g1,Option.bind_some,g2,Option.bind_some]
  dsimp only
  by_cases c1:M=0
  ·rw[if_pos c1,if_pos (by rw[t0.2 c1];rfl)]
  have ht:¬(t.length:Int)=0:=fun h=>c1 (t0.1 (List.length_eq_zero_iff.1 (by omega)))
  rw[if_neg c1,if_neg ht,tribunalref03_long.f,Option.bind_some]
  by_cases c2:N>65536
  ·have:=h1.1 c2
   rw[if_pos c2,if_pos (decide_eq_true (by omega))]
  have:¬1024<a'.length:=fun h=>c2 (h1.2 h)
  have hq:¬decide ((q.length:Int)>4096)=true:=by simp;omega
  rw[if_neg c2,if_neg hq,tribunalref03_long.f,Option.bind_some]
  by_cases c3:M>65536
  ·have:=h2.1 c3
   rw[if_pos c3,if_pos (decide_eq_true (by omega))]
  have:¬1024<b'.length:=fun h=>c3 (h2.2 h)
  have hq:¬decide ((t.length:Int)>4096)=true:=by simp;omega
  rw[if_neg c3,if_neg hq]
 have hm:=A.made
 have bad:∀e:Int,e≠0→(∀k,K1+K2≤k→ratio_made.f k s l p=some (false,[],false,[],e))→c=e:=by
  intro e he h
  have:=hm.eq' ⟨K1+K2,h⟩
  by_cases hc:c=0
  ·rw[if_pos hc]at this
   have:=congrArg (fun x=>x.2.2.2.2) this
   simp only at this
   omega
  rw[if_neg hc]at this
  exact congrArg (fun x=>x.2.2.2.2) this
 by_cases c1:M=0
 ·have:=bad 11 (by decide) (fun k hk=>(m0 k hk).trans (if_pos c1))
  subst this
  exact⟨11,r,A,.inr ⟨J1+J2,fun k hk=>(hF k hk).trans (if_pos c1)⟩,fun h=>absurd h (by decide)⟩
 by_cases c2:N>65536
 ·have:=bad 5 (by decide) (fun k hk=>((m0 k hk).trans (if_neg c1)).trans (if_pos c2))
  subst this
  exact⟨5,r,A,.inr ⟨J1+J2,fun k hk=>((hF k hk).trans (if_neg c1)).trans (if_pos c2)⟩,fun h=>absurd h (by decide)⟩
 by_cases c3:M>65536
 ·have:=bad 5 (by decide) (fun k hk=>(((m0 k hk).trans (if_neg c1)).trans (if_neg c2)).trans (if_pos c3))
  subst this
  exact⟨5,r,A,.inr ⟨J1+J2,fun k hk=>(((hF k hk).trans (if_neg c1)).trans (if_neg c2)).trans (if_pos c3)⟩,fun h=>absurd h (by decide)⟩
 have hc:c=0:=by
  have:=hm.eq' ⟨K1+K2,fun k hk=>(((m0 k hk).trans (if_neg c1)).trans (if_neg c2)).trans (if_neg c3)⟩
  by_cases hc:c=0
  ·exact hc
  rw[if_neg hc]at this
  have:=congrArg (fun x=>x.2.2.2.2) this
  simp only at this
  exact this
 refine⟨c,r,A,.inl hc,fun _=>?_⟩
 obtain⟨n',d,⟨x,sx,X3,N3,l3⟩,⟨y,sy,X4,N4,l4⟩,hd,hr⟩:=A.fr hc
 obtain⟨rfl,rfl⟩:=Prod.mk.inj (X3.eq' X1)
 obtain⟨rfl,rfl⟩:=Prod.mk.inj (X4.eq' X2)
 obtain rfl:=num_inj N3 N1
 obtain rfl:=num_inj N2 N4
 exact⟨_,d,_,q,t,⟨_,_,X1,N1,l3⟩,⟨_,_,X2,N2,l4⟩,hd,hr,⟨J1+J2,fun k hk=>(((hF k hk).trans (if_neg c1)).trans (if_neg c2)).trans (if_neg c3)⟩,M1,M2,by omega,by omega⟩
theorem abs_num {n:Int} {s:Bool} {l:List Int} (h:Num 65536 n s l) (hl:l.length≤8388608):∃r,Ev (fun k=>tribunalref02_Make.f k false l) (false,r)∧Num 65536 (n.natAbs:Int) false r∧r=l:=by
 obtain⟨u,r,E,N⟩:=rMake_rep h.rep hl false (n:=(n.natAbs:Int)) rfl
 obtain rfl:u=false:=by rw[N.sign];exact decide_eq_false (by omega)
 refine⟨r,E,N,?_⟩
 have:=N.rep
 rw[Int.natAbs_natCast]at this
 exact this.uniq (by decide) h.rep
theorem Qgcd_ev:∀(g:Nat) (n m:Int) (s t:Bool) (a b:List Int),m.natAbs≤g→Num 65536 n s a→Num 65536 m t b→a.length≤8388590→b.length≤8388590 →
  ∃r,Ev (fun k=>tribunalref03_gcd.l0 k s a t b) (false,r)∧Num 65536 ((Nat.gcd n.natAbs m.natAbs:Nat):Int) false r∧r.length≤8388590:=by
 intro g
 induction g with
 | zero=>
  intro n m s t a b hg ha hb la lb
  obtain rfl:m=0:=by omega
  obtain rfl:=(num_nil (by decide) hb).2 rfl
  obtain⟨r,⟨K,e⟩,N,rfl⟩:=abs_num ha (by omega)
  refine⟨r,⟨K+1,fun k hk=>?_⟩,by simpa using N,la⟩
  obtain⟨k,rfl⟩:∃j,k=j+1:=⟨k-1,by omega⟩
  have g1:tribunalref02_Make.f k false r=_:=e k (by omega)
  show tribunalref03_gcd.l0 (k+1) s r t []=_
  rw[tribunalref03_gcd.l0,if_neg (by simp),g1,Option.bind_some]
 | succ g ih=>
  intro n m s t a b hg ha hb la lb
  by_cases hm:m=0
  ·subst hm
   obtain rfl:=(num_nil (by decide) hb).2 rfl
   obtain⟨r,⟨K,e⟩,N,rfl⟩:=abs_num ha (by omega)
   refine⟨r,⟨K+1,fun k hk=>?_⟩,by simpa using N,la⟩
   obtain⟨k,rfl⟩:∃j,k=j+1:=⟨k-1,by omega⟩
   have g1:tribunalref02_Make.f k false r=_:=e k (by omega)
   show tribunalref03_gcd.l0 (k+1) s r t []=_
   rw[tribunalref03_gcd.l0,if_neg (by simp),g1,Option.bind_some]
  have hbl:(b.length:Int)>0:=by
   have:b≠[]:=fun h=>hm ((num_nil (by decide) hb).1 h)
   have:=List.length_pos_iff.2 this
   omega
  obtain⟨u,q,v,r,⟨K1,e1⟩,N1,N2,lq,lr⟩:=Cut_num ha hb hm la lb
  obtain⟨r',⟨K2,e2⟩,N3,rfl⟩:=abs_num N2 (by omega)
  have hlt:=rn_lt n hm
  obtain⟨x,⟨K3,e3⟩,N4,lx⟩:=ih m ((rn n m).natAbs:Int) t false b r' (by omega) hb N3 lb (by omega)
  refine⟨x,⟨K1+K2+K3+1,fun k hk=>?_⟩,?_,lx⟩
  ·obtain⟨k,rfl⟩:∃j,k=j+1:=⟨k-1,by omega⟩
   have g1:tribunalref02_Cut.f k s a t b=_:=e1 k (by omega)
   have g2:tribunalref02_Make.f k false r'=_:=e2 k (by omega)
   have g3:tribunalref03_gcd.l0 k t b false r'=_:=e3 k (by omega)
   show tribunalref03_gcd.l0 (k+1) s a t b=_
   rw[tribunalref03_gcd.l0,if_pos hbl,g1,Option.bind_some,g2,Option.bind_some,g3]
  rw[gcd_rn n hm]
  rwa [Int.natAbs_natCast]at N4
theorem Qlow_ev {n:Int} {d:Nat} {s:Bool} {a b:List Int} (ha:Num 65536 n s a) (hb:Num 65536 (d:Int) false b) (hd:d≠0) (la:a.length≤4096) (lb:b.length≤4096) :
  ∃u q t,Ev (fun k=>tribunalref03_Low.f k s a false b) (u,q,false,t)∧Num 65536 (mkRat n d).num u q∧Num 65536 ((mkRat n d).den:Int) false t∧q.length≤4096∧t.length≤4096:=by
 obtain⟨g,⟨K1,e1⟩,N1,lg⟩:=Qgcd_ev d n d s false a b (by omega) ha hb (by omega) (by omega)
 rw[Int.natAbs_natCast]at N1
 have hg:Nat.gcd n.natAbs d≠0:=fun h=>hd (Nat.gcd_eq_zero_iff.1 h).2
 obtain⟨u,q,_,_,⟨K2,e2⟩,N2,_,l2,_⟩:=Cut_num ha N1 (by omega) (by omega) lg
 obtain⟨v,t,_,_,⟨K3,e3⟩,N3,_,l3,_⟩:=Cut_num hb N1 (by omega) (by omega) lg
 obtain⟨h1,h2⟩:=rat_low n d hd
 rw[←h1]at N2
 rw[←h2]at N3
 obtain rfl:v=false:=by rw[N3.sign];exact decide_eq_false (by omega)
 refine⟨u,q,t,⟨K1+K2+K3,fun k hk=>?_⟩,N2,N3,by omega,by omega⟩
 have g1:tribunalref03_gcd.l0 k s a false b=_:=e1 k (by omega)
 have g2:tribunalref02_Cut.f k s a false g=_:=e2 k (by omega)
 have g3:tribunalref02_Cut.f k false b false g=_:=e3 k (by omega)
 show tribunalref03_Low.f k s a false b=_
 rw[tribunalref03_Low.f,tribunalref03_gcd.f,g1,Option.bind_some,g2,Option.bind_some,g3,Option.bind_some,if_neg (by decide)]
theorem to_num {n:Int} {t:Bool} {d:List Int} (g:Num 65536 n t d) (hd:d.length≤8388608):∃l,Ev (fun k=>tribunalref02_To.f k t d) (t,l)∧Num 18446744073709551616 n t l∧4*l.length<d.length+4:=by
 obtain⟨r,E,h1,h2,h3,_,h5⟩:=To_ev d t hd g.rep.dig g.rep.top
 exact⟨r,E,⟨⟨h1,h2,h3.trans g.rep.val⟩,g.sign⟩,h5⟩
theorem one_rep {d:Nat} {t:List Int} (h:Num 65536 (d:Int) false t):(t.length=1∧rd t 0=1)↔d=1:=by
 have R:=h.rep
 rw[Int.natAbs_natCast]at R
 constructor
 ·rintro⟨h1,h2⟩
  match t,h1 with
  | [x],_=>
   have hx:x=1:=h2
   have hv:=R.val
   rw[hx]at hv
   have:val 65536 [1]=1:=rfl
   omega
 rintro rfl
 have h1:Rep 65536 ((1:Nat):Int) [1]:=⟨by rw[Dig.cons];exact⟨by decide,Dig.nil⟩,by simp[Top],rfl⟩
 obtain rfl:=R.uniq (by decide) h1
 exact⟨rfl,rfl⟩
theorem Rounded_num {n m:Int} {s t:Bool} {a b:List Int} (ha:Num 65536 n s a) (hb:Num 65536 m t b) (hm:m≠0) (la:a.length≤4194304) (lb:b.length≤4194304) (up:Bool) :
  ∃u q,Ev (fun k=>tribunalref02_Rounded.f k s a t b up) (u,q)∧Num 65536 (ro n m up) u q∧q.length≤8388608:=by
 obtain⟨u,q,v,r,⟨K1,e1⟩,N1,N2,lq,lr⟩:=Cut_num ha hb hm (by omega) (by omega)
 have ss:=ha.sign
 have st:=hb.sign
 have inil:=num_nil (by decide) N2
 have hd:∀k,K1≤k→tribunalref02_Rounded.f k s a t b up=(if(r.length:Int)=0 then some (u,q) else if up=true then tribunalref02_Rounded.j0 k up (s != t) (s==t) u q else tribunalref02_Rounded.j0 k up (s != t) false u q):=by
  intro k hk
  have g1:tribunalref02_Cut.f k s a t b=_:=e1 k (by omega)
  rw[tribunalref02_Rounded.f,g1,Option.bind_some]
 by_cases hr0:rn n m=0
 ·refine⟨u,q,⟨K1,fun k hk=>?_⟩,by unfold ro;rw[if_pos hr0];exact N1,by omega⟩
  show tribunalref02_Rounded.f k s a t b up=_
  rw[hd k hk,if_pos (by rw[inil.2 hr0];rfl)]
 have hrn:¬(r.length:Int)=0:=fun h=>hr0 (inil.1 (List.length_eq_zero_iff.1 (by omega)))
 obtain⟨w,d,⟨K2,e2⟩,No,lo⟩:=Small1_num (n:=1) (by omega)
 obtain⟨w',d',⟨K3,e3⟩,No',lo'⟩:=Small1_num (n := -1) (by omega)
 obtain⟨u2,q2,⟨K4,e4⟩,N5⟩:=rplus_num N1 No (by omega) (by omega)
 obtain⟨u3,q3,⟨K5,e5⟩,N6⟩:=rplus_num N1 No' (by omega) (by omega)
 have l5:=num_len (by decide) N1 No N5 (by omega) (show q.length≤4194304 by omega) (show d.length≤4194304 by omega)
 have l6:=num_len (by decide) N1 No' N6 (by omega) (show q.length≤4194304 by omega) (show d'.length≤4194304 by omega)
 by_cases hst:decide (n<0)=decide (m<0)
 ·have hst':s=t:=by rw[ss,st];exact hst
  cases up with
  | true=>
   refine⟨u2,q2,⟨K1+K2+K4+1,fun k hk=>?_⟩,by unfold ro;rw[if_neg hr0,if_pos rfl,if_pos hst];exact N5,by omega⟩
   obtain⟨k,rfl⟩:∃j,k=j+1:=⟨k-1,by omega⟩
   have g2:tribunalref02_Small1.f k 1=_:=e2 k (by omega)
   have g4:tribunalref02_Plus.f k u q w d=_:=e4 k (by omega)
   show tribunalref02_Rounded.f (k+1) s a t b true=_
   rw[hd (k+1) (by omega),if_neg hrn,if_pos rfl,tribunalref02_Rounded.j0,if_pos (by rw[hst'];exact beq_self_eq_true t),g2,Option.bind_some,g4,Option.bind_some]
  | false=>
   refine⟨u,q,⟨K1+2,fun k hk=>?_⟩,by unfold ro;rw[if_neg hr0,if_neg (by decide),if_pos hst];exact N1,by omega⟩
   obtain⟨k,rfl⟩:∃j,k=j+2:=⟨k-2,by omega⟩
   show tribunalref02_Rounded.f (k+1+1) s a t b false=_
   rw[hd (k+1+1) (by omega),if_neg hrn,if_neg (by decide),tribunalref02_Rounded.j0,if_neg (by decide),if_neg (by decide),tribunalref02_Rounded.j1,if_neg (by rw[hst'];simp)]
 have hst':¬s=t:=by rw[ss,st];exact hst
 cases up with
 | true=>
  refine⟨u,q,⟨K1+2,fun k hk=>?_⟩,by unfold ro;rw[if_neg hr0,if_pos rfl,if_neg hst];exact N1,by omega⟩
  obtain⟨k,rfl⟩:∃j,k=j+2:=⟨k-2,by omega⟩
  show tribunalref02_Rounded.f (k+1+1) s a t b true=_
  rw[hd (k+1+1) (by omega),if_neg hrn,if_pos rfl,tribunalref02_Rounded.j0,if_neg (by simpa using hst'),if_pos rfl,tribunalref02_Rounded.j1,if_neg (by decide)]
 | false=>
  refine⟨u3,q3,⟨K1+K3+K5+2,fun k hk=>?_⟩,by unfold ro;rw[if_neg hr0,if_neg (by decide),if_neg hst,Int.sub_eq_add_neg];exact N6,by omega⟩
  obtain⟨k,rfl⟩:∃j,k=j+2:=⟨k-2,by omega⟩
  have g3:tribunalref02_Small1.f k (-1)=_:=e3 k (by omega)
  have g5:tribunalref02_Plus.f k u q w' d'=_:=e5 k (by omega)
  show tribunalref02_Rounded.f (k+1+1) s a t b false=_
  rw[hd (k+1+1) (by omega),if_neg hrn,if_neg (by decide),tribunalref02_Rounded.j0,if_neg (by decide),if_neg (by decide),tribunalref02_Rounded.j1,if_pos (by simpa using hst'),g3,Option.bind_some,g5,Option.bind_some]
theorem Int_arg' {n:Int} {d:Nat} {s:Bool} {l p:List Int} (hm:Ev (fun k=>ratio_made.f k s l p) (s,l,false,p,0)) (A:AN 1024 n s l) (D:AN 1024 (d:Int) false p) (hd:d≠0):∃z,Ev (fun k=>ratio_Int.f k s l p) z∧(((mkRat n d).den=1∧z.2.2=true∧Num 18446744073709551616 (mkRat n d).num z.1 z.2.1∧z.2.1.length≤1024)∨((mkRat n d).den≠1∧z=(false,[],false))):=by
 obtain⟨K1,e1⟩:=hm
 obtain⟨a,b,c,e,⟨K2,e2⟩,Q⟩:=fr_low_ev (L:=1024) (r:=mkRat n d) ⟨n,d,A,D,hd,rfl⟩ (by omega)
 obtain⟨v,o,⟨K3,e3⟩,N1,l1⟩:=AN.one
 obtain⟨K4,e4⟩:=(AN.of Q.d Q.ld (by omega)).cmp (AN.of N1 l1 (by omega)) (by omega) (by omega)
 refine⟨if sg (((mkRat n d).den:Int)-1)=0 then(a,b,true) else(false,[],false),⟨K1+K2+K3+K4,fun k hk=>?_⟩,?_⟩
 ·have g1:ratio_made.f k s l p=_:=e1 k (by omega)
  have g2:ratio_fraction_low.f k s l false p=_:=e2 k (by omega)
  have g3:whole_Of.f k 1=_:=e3 k (by omega)
  have g4:whole_Cmp.f k c e v o=_:=e4 k (by omega)
  show ratio_Int.f k s l p=_
  rw[ratio_Int.f,g1,Option.bind_some,if_pos (by exact rfl),g2,Option.bind_some,g3,Option.bind_some,g4,Option.bind_some]
  split<;>rfl
 have hs:=sg_eq_zero (((mkRat n d).den:Int)-1)
 by_cases h:sg (((mkRat n d).den:Int)-1)=0
 ·rw[if_pos h]
  have:=hs.1 h
  exact .inl ⟨by omega,rfl,Q.n,Q.ln⟩
 rw[if_neg h]
 exact .inr ⟨fun g=>h (hs.2 (by omega)),rfl⟩
end Go.Proofs.YtikencoikigllaaGreatDoor.PurePRy
namespace Go.Proofs.YtikencoikigllaaGreatDoor.Pure
open Go.RowKit Go.Proofs.YtikencoikigllaaGreatDoorW.PrintWords Go.Proofs.YtikencoikigllaaGreatDoorW.PrintLast Go.Proofs.YtikencoikigllaaGreatDoorW.PrintMore Go.Proofs.YtikencoikigllaaGreatDoor.PRy Go.Proofs.YtikencoikigllaaGreatDoor Go.Proofs.YtikencoikigllaaGreatDoor.Mine Big PurePRy
theorem cmp_self {x:Int} {u:Bool} {q:List Int} (h:Num 18446744073709551616 x u q) (hl:q.length≤1048576):PurePRy.Ev (fun k=>whole_Cmp.f k u q u q) 0:=by
 have:=(AN.of h hl (by omega)).cmp (AN.of h hl (by omega)) (by omega) (by omega)
 rwa [Int.sub_self,sg_zero rfl]at this
theorem ratioRounds_pure (a:Bool) (x1 x2:List Int) (h1:x1.length≤1048576) (h2:x2.length≤1048576) (w1:∀z∈x1,(Lit.int .u64 z).wf=true) (w2:∀z∈x2,(Lit.int .u64 z).wf=true):∃k,PRy.tribunallaw03_RatioRounds.f k a x1 x2=some true:=by
 obtain⟨c,r,A,hF,hR⟩:=ArgR a x1 x2 h1 h2 (dig_of_wf w1) (dig_of_wf w2)
 have fin:∀(f1 f2:Bool×List Int×Int) (i1:Bool×List Int×Bool),PurePRy.Ev (fun k=>ratio_Floor.f k a x1 x2) f1→PurePRy.Ev (fun k=>tribunalref03_Rounded.f k a x1 x2 false) f1→PurePRy.Ev (fun k=>ratio_Ceil.f k a x1 x2) f2→PurePRy.Ev (fun k=>tribunalref03_Rounded.f k a x1 x2 true) f2→PurePRy.Ev (fun k=>ratio_Int.f k a x1 x2) i1→PurePRy.Ev (fun k=>tribunalref03_Int.f k a x1 x2) i1 →
   PurePRy.Ev (fun k=>whole_Cmp.f k f1.1 f1.2.1 f1.1 f1.2.1) 0→PurePRy.Ev (fun k=>whole_Cmp.f k f2.1 f2.2.1 f2.1 f2.2.1) 0→PurePRy.Ev (fun k=>whole_Cmp.f k i1.1 i1.2.1 i1.1 i1.2.1) 0→∃k,PRy.tribunallaw03_RatioRounds.f k a x1 x2=some true:=by
  rintro f1 f2 i1 ⟨K1,e1⟩ ⟨K2,e2⟩ ⟨K3,e3⟩ ⟨K4,e4⟩ ⟨K5,e5⟩ ⟨K6,e6⟩ ⟨K7,e7⟩ ⟨K8,e8⟩ ⟨K9,e9⟩
  refine⟨K1+K2+K3+K4+K5+K6+K7+K8+K9,?_⟩
  obtain⟨k,hk⟩:∃k,k=K1+K2+K3+K4+K5+K6+K7+K8+K9:=⟨_,rfl⟩
  rw[←hk]
  have g0:tribunallaw03_alive.f 80=some true:=by kernel_rfl
  have g1:ratio_Floor.f k a x1 x2=_:=e1 k (by omega)
  have g2:tribunalref03_Rounded.f k a x1 x2 false=_:=e2 k (by omega)
  have g3:ratio_Ceil.f k a x1 x2=_:=e3 k (by omega)
  have g4:tribunalref03_Rounded.f k a x1 x2 true=_:=e4 k (by omega)
  have g5:ratio_Int.f k a x1 x2=_:=e5 k (by omega)
  have g6:tribunalref03_Int.f k a x1 x2=_:=e6 k (by omega)
  have g7:whole_Cmp.f k f1.1 f1.2.1 f1.1 f1.2.1=_:=e7 k (by omega)
  have g8:whole_Cmp.f k f2.1 f2.2.1 f2.1 f2.2.1=_:=e8 k (by omega)
  have g9:whole_Cmp.f k i1.1 i1.2.1 i1.1 i1.2.1=_:=e9 k (by omega)
  show tribunallaw03_RatioRounds.f k a x1 x2=_
  rw[tribunallaw03_RatioRounds.f,g1,Option.bind_some,g2,Option.bind_some,g3,Option.bind_some,g4,Option.bind_some,g5,Option.bind_some,g6,Option.bind_some,g7,Option.bind_some,if_pos rfl,if_pos rfl,g8,Option.bind_some,if_pos rfl,if_pos rfl,g9,Option.bind_some,if_pos rfl,if_pos (beq_self_eq_true _),g0,Option.bind_some]
 have c0:PurePRy.Ev (fun k=>whole_Cmp.f k false [] false []) 0:=cmp_self (nil_num' _) (by simp)
 by_cases hc:c=0
 ·subst hc
  obtain⟨n,d,u,q,t,AN1,AN2,hd,rfl,⟨J1,f1⟩,M1,M2,lq,lt⟩:=hR rfl
  have hm:=A.made
  rw[if_pos rfl]at hm
  have hd0:(d:Int)≠0:=by omega
  have lq':q.length≤4194304:=by omega
  have lt':t.length≤4194304:=by omega
  obtain⟨u1,q1,E1,N1,l1⟩:=Floor_arg hm AN1 AN2 hd
  obtain⟨u2,q2,E2,N2,l2⟩:=Ceil_arg hm AN1 AN2 hd
  obtain⟨z,E3,hz⟩:=Int_arg' hm AN1 AN2 hd
  have rnd:∀up x y,Num 18446744073709551616 (ro n d up) x y→PurePRy.Ev (fun k=>tribunalref03_Rounded.f k a x1 x2 up) (x,y,0):=by
   intro up x y hN
   obtain⟨v,e,⟨K1,e1⟩,N3,l3⟩:=Rounded_num M1 M2 hd0 lq' lt' up
   obtain⟨l,⟨K2,e2⟩,N4,_⟩:=to_num N3 l3
   obtain⟨rfl,rfl⟩:=hN.uniq (by decide) N4
   refine⟨J1+K1+K2,fun k hk=>?_⟩
   have g1:tribunalref03_From.f k a x1 x2=_:=f1 k (by omega)
   have g2:tribunalref02_Rounded.f k u q false t up=_:=e1 k (by omega)
   have g3:tribunalref02_To.f k _ e=_:=e2 k (by omega)
   show tribunalref03_Rounded.f k a x1 x2 up=_
   rw[tribunalref03_Rounded.f,g1,Option.bind_some,if_pos rfl,g2,Option.bind_some,g3,Option.bind_some]
  obtain⟨v,e,y,⟨K1,e1⟩,Q1,Q2,lx,ly⟩:=Qlow_ev M1 M2 hd lq lt
  obtain⟨m,⟨K2,e2⟩,N4,l4⟩:=to_num Q1 (by omega)
  have ho:=one_rep Q2
  have E4:PurePRy.Ev (fun k=>tribunalref03_Int.f k a x1 x2) z:=by
   refine⟨J1+K1+K2,fun k hk=>?_⟩
   have g1:tribunalref03_From.f k a x1 x2=_:=f1 k (by omega)
   have g2:tribunalref03_Low.f k u q false t=_:=e1 k (by omega)
   have g3:tribunalref02_To.f k v e=_:=e2 k (by omega)
   show tribunalref03_Int.f k a x1 x2=_
   rw[tribunalref03_Int.f,g1,Option.bind_some,if_pos rfl,g2,Option.bind_some]
   dsimp only
   rcases hz with⟨h1,hz2,hz3,hz4⟩|⟨h1,rfl⟩
   ·obtain⟨o1,o2⟩:=ho.2 h1
    rw[if_pos (by omega),if_pos (by omega),if_pos o2,g3,Option.bind_some]
    obtain⟨p1,p2⟩:=N4.uniq (by decide) hz3
    obtain⟨z1,z2,z3⟩:=z
    simp only at p1 p2 hz2
    rw[p1,p2,hz2]
   by_cases o1:(y.length:Int)=1
   ·rw[if_pos o1,if_pos (by omega),if_neg (fun o2=>h1 (ho.1 ⟨by omega,o2⟩))]
   rw[if_neg o1]
  refine fin _ _ _ E1 (rnd false _ _ N1) E2 (rnd true _ _ N2) E3 E4 (cmp_self N1 (show q1.length≤1048576 by omega)) (cmp_self N2 (show q2.length≤1048576 by omega)) ?_
  rcases hz with⟨_,_,hz3,hz4⟩|⟨_,rfl⟩
  ·exact cmp_self hz3 (by omega)
  exact c0
 obtain⟨J1,f1⟩:=hF.resolve_left hc
 obtain⟨K1,e1⟩:=A.made
 rw[if_neg hc]at e1
 have g1:∀k,J1+K1≤k→ratio_made.f k a x1 x2=some (false,[],false,[],c):=fun k hk=>e1 k (by omega)
 have g2:∀k,J1+K1≤k→tribunalref03_From.f k a x1 x2=some (false,[],false,[],c):=fun k hk=>f1 k (by omega)
 refine fin (false,[],c) (false,[],c) (false,[],false) ⟨J1+K1,fun k hk=>?_⟩ ⟨J1+K1,fun k hk=>?_⟩ ⟨J1+K1,fun k hk=>?_⟩ ⟨J1+K1,fun k hk=>?_⟩ ⟨J1+K1,fun k hk=>?_⟩ ⟨J1+K1,fun k hk=>?_⟩ c0 c0 c0
 ·show ratio_Floor.f k a x1 x2=_
  rw[ratio_Floor.f,g1 k hk,Option.bind_some];dsimp only;rw[if_neg hc]
 ·show tribunalref03_Rounded.f k a x1 x2 false=_
  rw[tribunalref03_Rounded.f,g2 k hk,Option.bind_some];dsimp only;rw[if_neg hc]
 ·show ratio_Ceil.f k a x1 x2=_
  rw[ratio_Ceil.f,g1 k hk,Option.bind_some];dsimp only;rw[if_neg hc]
 ·show tribunalref03_Rounded.f k a x1 x2 true=_
  rw[tribunalref03_Rounded.f,g2 k hk,Option.bind_some];dsimp only;rw[if_neg hc]
 ·show ratio_Int.f k a x1 x2=_
  rw[ratio_Int.f,g1 k hk,Option.bind_some];dsimp only;rw[if_neg hc]
 show tribunalref03_Int.f k a x1 x2=_
 rw[tribunalref03_Int.f,g2 k hk,Option.bind_some];dsimp only;rw[if_neg hc]
end Go.Proofs.YtikencoikigllaaGreatDoor.Pure
