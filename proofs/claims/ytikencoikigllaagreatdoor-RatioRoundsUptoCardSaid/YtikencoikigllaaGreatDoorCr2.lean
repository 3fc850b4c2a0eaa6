/- Part 2 of what the card rests on. -/
import Derived.Deep.RegionWith
import Derived.Test.YtikencoikigllaaGreatDoorCr1
set_option maxHeartbeats 8000000
set_option maxRecDepth 100000
set_option linter.unusedVariables false
set_option linter.unusedSimpArgs false
namespace Go.Proofs.YtikencoikigllaaGreatDoor.Mine
open Go.RowKit Go.Proofs.YtikencoikigllaaGreatDoorW.PrintWords Go.Proofs.YtikencoikigllaaGreatDoorW.PrintLast Go.Proofs.YtikencoikigllaaGreatDoorW.PrintMore
open Go.Proofs.YtikencoikigllaaGreatDoor.PRy
def Seg (W:World) (g:Nat) (pre:List Value) (xs:List Int) (post:List Value):Prop:=W.heap[g]? = some (.cells (pre++xs.map (Value.int .u64)++post).toArray 72 (0,0))
theorem Seg.drewN {W:World} {g:Nat} {pre post:List Value} {xs:List Int} (h:Seg W g pre xs post) (n:Nat):Seg (W.drewN n) g pre xs post:=blk_drewN h n
theorem Seg.cell {W:World} {g:Nat} {pre post:List Value} {xs:List Int} (h:Seg W g pre xs post) (i:Int) (_h0:0≤i) (h1:i<xs.length):W.cell? ⟨g,pre.length+i.toNat,none⟩=some (.int .u64 (rd xs i)):=by
 rw[blk_cell h]
 have hi:i.toNat<xs.length:=by omega
 simp only[List.getElem?_toArray]
 rw[List.append_assoc,List.getElem?_append_right (by omega),Nat.add_sub_cancel_left,List.getElem?_append_left (by simpa using hi),List.getElem?_map,List.getElem?_eq_getElem hi]
 simp[rd,List.getD_eq_getElem?_getD,List.getElem?_eq_getElem hi]
theorem Seg.cell0 {W:World} {g:Nat} {post:List Value} {xs:List Int} (h:Seg W g [] xs post) (i:Int) (h0:0≤i) (h1:i<xs.length):W.cell? ⟨g,i.toNat,none⟩=some (.int .u64 (rd xs i)):=by
 have:=h.cell i h0 h1
 simpa using this
theorem Seg.free {W:World} {g:Nat} {pre post:List Value} {xs:List Int} (h:Seg W g pre xs post) (j:Nat):W.frozen? ⟨g,j,none⟩=false:=blk_frozen h j
theorem Seg.put {W:World} {g:Nat} {pre post:List Value} {xs:List Int} (h:Seg W g pre xs post) (i:Int) (v:Int) (_h0:0≤i) (h1:i<xs.length):Seg (W.setCell ⟨g,pre.length+i.toNat,none⟩ (.int .u64 v)) g pre (xs.set i.toNat v) post:=by
 refine blk_put h _ _ ?_
 have hi:i.toNat<xs.length:=by omega
 simp only[List.setIfInBounds_toArray]
 congr 1
 rw[List.append_assoc,List.append_assoc,List.set_append_right _ _ (by simp),Nat.add_sub_cancel_left,List.set_append_left _ _ (by simpa using hi),List.map_set]
theorem Seg.put0 {W:World} {g:Nat} {post:List Value} {xs:List Int} (h:Seg W g [] xs post) (i:Int) (v:Int) (h0:0≤i) (h1:i<xs.length):Seg (W.setCell ⟨g,i.toNat,none⟩ (.int .u64 v)) g [] (xs.set i.toNat v) post:=by
 have:=h.put i v h0 h1
 simpa using this
theorem Seg.far {W:World} {g:Nat} {pre post:List Value} {xs:List Int} (h:Seg W g pre xs post) {p:Addr} (hp:g≠p.block) (u:Value):Seg (W.setCell p u) g pre xs post:=blk_far h hp u
theorem Seg.lt {W:World} {g:Nat} {pre post:List Value} {xs:List Int} (h:Seg W g pre xs post):g<W.heap.size:=blk_lt h
theorem Seg.keep {W W':World} {g g':Nat} {pre post:List Value} {xs:List Int} (h:Seg W g pre xs post) (hk:KeepBut W W' g' none) (hne:g≠g'):Seg W' g pre xs post:=hk.blk h hne (by simp)
theorem Seg.below {W W':World} {g:Nat} {pre post:List Value} {xs:List Int} (h:Seg W g pre xs post) (hb:Below W.heap.size W W'):Seg W' g pre xs post:=blk_below h hb
theorem Seg.alloc {W:World} {g:Nat} {pre post:List Value} {xs:List Int} (h:Seg W g pre xs post) (o:Obj):Seg (W.alloc o) g pre xs post:=blk_alloc h o
theorem Seg.C {W:World} {g:Nat} {pre post:List Value} {xs:List Int} (h:Seg W g pre xs post) (hm:xs.length≤9223372036854775807):Kd.C (Kd.int .u64) W (some ⟨g,pre.length,none⟩) xs.length xs:=by
 refine⟨rfl,hm,fun _=>⟨_,rfl,fun j p hj=>⟨[.int .u64 p],rfl,rfl,fun i u hu=>?_⟩⟩⟩
 obtain⟨hjl,hjp⟩:=List.getElem?_eq_some_iff.1 hj
 have hi:i=0:=by
  have:=(List.getElem?_eq_some_iff.1 hu).1
  simpa using this
 subst hi
 have hu':Value.int .u64 p=u:=by simpa using hu
 subst hu'
 have hc:=h.cell (j:Int) (by omega) (by omega)
 rw[show j*(Kd.int IntKind.u64).sz+0=j from by show j*1+0=j;omega]
 have ha:(⟨g,pre.length,none⟩:Addr).add j=⟨g,pre.length+(j:Int).toNat,none⟩:=by
  unfold Addr.add
  split<;>simp_all
 rw[ha,hc]
 simp[rd,List.getD_eq_getElem?_getD,hj]
theorem Seg.V {W:World} {g base c:Nat} {pre post:List Value} {xs:List Int} {ok:Nat→Prop} (h:Seg W g pre xs post) (hok:ok g) (hl:xs.length≤c) (hm:xs.length≤9223372036854775807):Kd.V (Kd.int .u64) 72 W base ok (.slice (some ⟨g,pre.length,none⟩) xs.length c) xs:=
 ⟨_,c,rfl,hl,fun W' hW=>Seg.C (pre:=pre) (post:=post) (show Seg W' g pre xs post from(hW g hok h.lt).trans h) hm⟩
theorem Seg.of_R {W:World} {base:Nat} {ok:Nat→Prop} {v:Value} {xs:List Int} (h:Kd.R (Kd.int .u64) 72 W base ok v xs) (hp:0<xs.length) :
  ∃g cap post,v=.slice (some ⟨g,0,none⟩) xs.length cap∧base≤g∧xs.length≤cap∧cap≤maxLen∧Seg W g [] xs post:=by
 have ho:=Kd.own_of_R (enc:=Value.int .u64) (h1:=fun _=>rfl) h
 rcases ho.2 with⟨_,h0⟩|⟨g,cap,cur,rfl,hg,hh,hl,hc,hs,ht⟩
 ·omega
 refine⟨g,cap,cur.toList.drop xs.length,rfl,hg,hl,hc,?_⟩
 unfold Seg
 rw[hh]
 congr 2
 have e:(encs (Value.int .u64) xs)=xs.map (Value.int .u64):=rfl
 rw[e]at ht
 rw[Nat.mul_one]at ht
 rw[List.nil_append,←ht,List.take_append_drop]
theorem KeepBut.drewN {w W:World} {g:Nat} (h:KeepBut w W g none) (n:Nat):KeepBut w (W.drewN n) g none:=h
theorem subtract_seg (k:Nat) (g c:Nat) (pre post:List Value) (xs:List Int) (A1:Option Addr) (c1:Nat) (l1:List Int) (a2:Int) (r1:Bool) (r2:List Int) (w:World) (hb:Seg w g pre xs post)
  (hv:∀W',KeepBut w W' g none→Kd.C (Kd.int .u64) W' A1 l1.length l1) (h:whole_subtract.f k xs l1 a2=some (r1,r2)) :
  Calls Tryz.prog 226 #[.slice (some ⟨g,pre.length,none⟩) xs.length c,.slice A1 l1.length c1,.int .u64 a2] w fun e w'=>e=.returned (.bool r1)∧r2.length=xs.length∧Seg w' g pre r2 post∧KeepBut w w' g none∧Below g w w':=by
 have HS:=Aside0.mk hb
 have HV:=Aside0.mk hv
 have HK:=Aside0.mk (KeepBut.refl w g none)
 have HW:=Aside0.mk (Below.refl g w)
 clear hb hv
 have H':=Aside0.mk (show whole_subtract.l0 k xs l1 a2 0 0 l1 (l1.length:Int) 0=some (r1,r2) from h)
 clear h
 go_enter Tryz.func226,Tryz.ntmps226
 go_wp2
 go_loopg [7,8,16] k (fun kq v7 v8 v16 w'=>∃(y:List Int) (x7 x8 x16:Int),v7=.int .u64 x7∧v8=.int .u64 x8∧v16=.int .i64 x16∧Aside0 (whole_subtract.l0 kq y l1 a2 x7 x8 l1 (l1.length:Int) x16=some (r1,r2))∧Aside0 (kq≤k)∧Aside0 (y.length=xs.length)∧Aside0 (Seg w' g pre y post)∧Aside0 (KeepBut w w' g none)∧Aside0 (Below g w w'))
 case atStart=>exact⟨xs,0,0,0,rfl,rfl,rfl,H',⟨Nat.le_refl _⟩,⟨rfl⟩,HS,HK,HW⟩
 case round=>
  clear H' HS HK HW
  obtain⟨y,x7,x8,x16,rfl,rfl,rfl,HA,HK1,HL,HS,HK,HW⟩:=hrel
  cases gk with
  | zero=>exact absurd HA.out (by simp[whole_subtract.l0])
  | succ k1=>
   have H:=HA.out
   clear HA
   simp only[whole_subtract.l0]at H
   by_cases c4:x16<(l1.length:Int)
   ·rw[if_pos c4]at H
    by_cases c5:0≤x16
    ·rw[if_pos c5,if_pos c4]at H
     obtain⟨⟨t144,t145⟩,A7,H⟩:=Option.bind_eq_some_iff.mp H
     obtain⟨⟨t146,t147⟩,A8,H⟩:=Option.bind_eq_some_iff.mp H
     by_cases c9:x16<(y.length:Int)
     ·simp only[if_pos c9]at H
      obtain⟨⟨t149,t150⟩,A10,H⟩:=Option.bind_eq_some_iff.mp H
      simp only at A8 A10 H
      have cw:x16+1≤9223372036854775807:=by have:=(HV.out _ HK.out).2.1;omega
      have B7:=Aside0.mk A7
      rw[show wrap64 (x16+1)=x16+1 from IntWalk.wrap64_in _ ⟨by omega,cw⟩]at H
      have H2:=Aside0.mk H
      have hx8:=bits_Add64.run A8
      have hx10:=bits_Sub64.run A10
      clear A7 A8 A10 H
      obtain⟨ad,rfl,hx⟩:=Kd.at_int (HV.out _ HK.out) x16 c5 c4
      have hu:=HS.out.cell x16 c5 c9
      have hf:=HS.out.free (pre.length+x16.toNat)
      have hp:=Aside0.mk (HS.out.put x16 t149 c5 c9)
      have c9':x16<(xs.length:Int):=by rw[←HL.out];exact c9
      go_wp2_with (first|(go_at_call 113;refine(bits_Mul64.calls _ _ t144 t145 _ B7.out).mono ?_;rintro e w' ⟨rfl,⟨nd,rfl⟩⟩))
      go_roundg k1
      case measure=>have:=HK1.out;omega
      case rel=>exact⟨y.set x16.toNat t149,IntKind.u64.wrap (t144+t147),t150,x16+1,rfl,rfl,rfl,H2,⟨by have:=HK1.out;omega⟩,⟨by rw[List.length_set];exact HL.out⟩,hp,⟨HK.out.set_ _ _⟩,⟨(pw_below_drewN HW.out _).setCell (Nat.le_refl _) _⟩⟩
     simp only[if_neg c9]at H;exact absurd H (by simp)
    rw[if_neg c5]at H;exact absurd H (by simp)
   rw[if_neg c4]at H
   by_cases c18:(l1.length:Int)<(y.length:Int)
   ·rw[if_pos (by omega),if_pos c18]at H
    obtain⟨⟨t153,t154⟩,A19,H⟩:=Option.bind_eq_some_iff.mp H
    simp only[Option.some.injEq,Prod.mk.injEq]at H
    obtain⟨rfl,rfl⟩:=H
    have hx19:=bits_Sub64.run A19
    clear A19
    have hu:=HS.out.cell (l1.length:Int) (by omega) c18
    have hf:=HS.out.free (pre.length+l1.length)
    have hp:=Aside0.mk (HS.out.put (l1.length:Int) t153 (by omega) c18)
    simp only[Int.toNat_natCast]at hu hp
    have c18':l1.length<xs.length:=by have:=HL.out;omega
    go_wp2
    go_ret
    exact⟨rfl,by simpa using HL.out,by simpa using hp.out,HK.out.set_ _ _,HW.out.setCell (Nat.le_refl _) _⟩
   rw[if_pos (by omega),if_neg c18]at H;exact absurd H (by simp)
theorem add_seg (k:Nat) (g c:Nat) (pre post:List Value) (xs:List Int) (A1:Option Addr) (c1:Nat) (l1:List Int) (r2:List Int) (w:World) (hb:Seg w g pre xs post)
  (hv:∀W',KeepBut w W' g none→Kd.C (Kd.int .u64) W' A1 l1.length l1) (h:whole_add.f k xs l1=some r2) :
  Calls Tryz.prog 227 #[.slice (some ⟨g,pre.length,none⟩) xs.length c,.slice A1 l1.length c1] w fun e w'=>e=.returned (.tuple #[])∧r2.length=xs.length∧Seg w' g pre r2 post∧KeepBut w w' g none∧Below g w w':=by
 have HS:=Aside0.mk hb
 have HV:=Aside0.mk hv
 have HK:=Aside0.mk (KeepBut.refl w g none)
 have HW:=Aside0.mk (Below.refl g w)
 clear hb hv
 have H':=Aside0.mk (show whole_add.l0 k xs l1 0 l1 (l1.length:Int) 0=some r2 from h)
 clear h
 go_enter Tryz.func227,Tryz.ntmps227
 go_wp2
 go_loopg [4,9] k (fun kq v4 v9 w'=>∃(y:List Int) (x4 x9:Int),v4=.int .u64 x4∧v9=.int .i64 x9∧Aside0 (whole_add.l0 kq y l1 x4 l1 (l1.length:Int) x9=some r2)∧Aside0 (kq≤k)∧Aside0 (y.length=xs.length)∧Aside0 (Seg w' g pre y post)∧Aside0 (KeepBut w w' g none)∧Aside0 (Below g w w'))
 case atStart=>exact⟨xs,0,0,rfl,rfl,H',⟨Nat.le_refl _⟩,⟨rfl⟩,HS,HK,HW⟩
 case round=>
  clear H' HS HK HW
  obtain⟨y,x4,x9,rfl,rfl,HA,HK1,HL,HS,HK,HW⟩:=hrel
  cases gk with
  | zero=>exact absurd HA.out (by simp[whole_add.l0])
  | succ k1=>
   have H:=HA.out
   clear HA
   simp only[whole_add.l0]at H
   by_cases c4:x9<(l1.length:Int)
   ·rw[if_pos c4]at H
    by_cases c5:0≤x9
    ·rw[if_pos c5,if_pos c4]at H
     by_cases c9:x9<(y.length:Int)
     ·simp only[if_pos c9]at H
      obtain⟨⟨t149,t150⟩,A10,H⟩:=Option.bind_eq_some_iff.mp H
      simp only at A10 H
      have cw:x9+1≤9223372036854775807:=by have:=(HV.out _ HK.out).2.1;omega
      rw[show wrap64 (x9+1)=x9+1 from IntWalk.wrap64_in _ ⟨by omega,cw⟩]at H
      have H2:=Aside0.mk H
      have hx10:=bits_Add64.run A10
      clear A10 H
      obtain⟨ad,rfl,hx⟩:=Kd.at_int (HV.out _ HK.out) x9 c5 c4
      have hu:=HS.out.cell x9 c5 c9
      have hf:=HS.out.free (pre.length+x9.toNat)
      have hp:=Aside0.mk (HS.out.put x9 t149 c5 c9)
      have c9':x9<(xs.length:Int):=by rw[←HL.out];exact c9
      go_wp2
      go_roundg k1
      case measure=>have:=HK1.out;omega
      case rel=>exact⟨y.set x9.toNat t149,t150,x9+1,rfl,rfl,H2,⟨by have:=HK1.out;omega⟩,⟨by rw[List.length_set];exact HL.out⟩,hp,⟨HK.out.set_ _ _⟩,⟨HW.out.setCell (Nat.le_refl _) _⟩⟩
     simp only[if_neg c9]at H;exact absurd H (by simp)
    rw[if_neg c5]at H;exact absurd H (by simp)
   rw[if_neg c4]at H
   by_cases c18:(l1.length:Int)<(y.length:Int)
   ·rw[if_pos (by omega),if_pos c18]at H
    simp only[Option.some.injEq]at H
    subst H
    have hu:=HS.out.cell (l1.length:Int) (by omega) c18
    have hf:=HS.out.free (pre.length+l1.length)
    have hp:=Aside0.mk (HS.out.put (l1.length:Int) (IntKind.u64.wrap ((rd y (l1.length:Int))+x4)) (by omega) c18)
    simp only[Int.toNat_natCast]at hu hp
    have c18':l1.length<xs.length:=by have:=HL.out;omega
    go_wp2
    go_end0
    exact⟨rfl,by simpa using HL.out,by simpa using hp.out,HK.out.set_ _ _,HW.out.setCell (Nat.le_refl _) _⟩
   rw[if_pos (by omega),if_neg c18]at H;exact absurd H (by simp)
def quo_fix:Nat→Int→Int→Int→Int→Int→Option Int
 | 0,_,_,_,_,_=>none
 | k+1,guess,rest,vn2,vn1,un2=>(bits_Mul64.f guess vn2).bind fun hl=>if hl.1<rest then some guess else if hl.1=rest∧hl.2≤un2 then some guess else
   if IntKind.u64.wrap (rest+vn1)<rest then some (IntKind.u64.wrap (guess-1)) else quo_fix k (IntKind.u64.wrap (guess-1)) (IntKind.u64.wrap (rest+vn1)) vn2 vn1 un2
theorem quo_fix.mono:∀k g r a b c,LeO (quo_fix k g r a b c) (quo_fix (k+1) g r a b c)
 | 0=>fun _ _ _ _ _ r h=>by simp[quo_fix]at h
 | k+1=>by
  intro g r a b c
  have ih:=quo_fix.mono k
  unfold quo_fix
  repeat' first
   | (with_reducible exact ih _ _ _ _ _)
   | (with_reducible exact LeO.refl _)
   | (with_reducible refine LeO.ite ?_ ?_)
   | (with_reducible refine LeO.bind ?_ (fun _=>?_))
   | exact ih _ _ _ _ _
def quo_guess (k:Nat) (un un1 un2 vn1 vn2:Int):Option Int:=if un<vn1 then(bits_Div64.f k un un1 vn1).bind fun qr=>quo_fix k qr.1 qr.2 vn2 vn1 un2 else some 18446744073709551615
def splice (u:List Int) (j:Nat) (s:List Int):List Int:=u.take j++s++u.drop (j+s.length)
def quo_go:Nat→List Int→List Int→List Int→Int→Option (List Int×List Int)
 | 0,_,_,_,_=>none
 | k+1,u,v,q,j=>if j<0 then some (u,q) else if j+(v.length:Int)<(u.length:Int)∧j<(q.length:Int)∧2≤v.length then
   (quo_guess k (rd u (j+(v.length:Int))) (rd u (j+(v.length:Int)-1)) (rd u (j+(v.length:Int)-2)) (rd v ((v.length:Int)-1)) (rd v ((v.length:Int)-2))).bind fun g=>
   (whole_subtract.f k ((u.drop j.toNat).take (v.length+1)) v g).bind fun bs=>if bs.1=true then
    (whole_add.f k bs.2 v).bind fun s=>quo_go k (splice u j.toNat s) v (q.set j.toNat (IntKind.u64.wrap (g-1))) (j-1)
   else quo_go k (splice u j.toNat bs.2) v (q.set j.toNat g) (j-1)
  else none
def whole_amount_quo.f (k:Nat) (a b:List Int):Option (List Int×List Int):=
 (whole_amount_cmp.f k a b).bind fun c=>if c<0 then some ([],a) else if b.length=1 then
  (whole_amount_byLimb.f k a (rd b 0)).bind fun qr=>(whole_trimmed.f k [qr.2]).bind fun r=>some (qr.1,r)
 else if b.length<a.length+1∧2≤b.length∧a.length<17592186044416 then
  (bits_LeadingZeros64.f (rd b ((b.length:Int)-1))).bind fun s=>if 0≤s∧s≤64 then(whole_amount_up.f k b s).bind fun v=>(whole_amount_up.f k a s).bind fun u=>
  if b.length≤v.length∧b.length≤u.length then
  (quo_go k u (v.take b.length) (List.replicate (a.length-b.length+1) 0) ((a.length:Int)-(b.length:Int))).bind fun uq=>
  (whole_trimmed.f k uq.2).bind fun q=>(whole_trimmed.f k (uq.1.take b.length)).bind fun r0=>(whole_amount_down.f k r0 s).bind fun r=>some (q,r)
  else none else none
 else none
theorem minfo59q:(Tryz.prog.info? 72).map (fun i=>(i.zero,i.size,i.bytes))=some (some (.int .u64 0),1,8):=by kernel_rfl
set_option maxHeartbeats 4000000 in
theorem quo_less (k:Nat) (P0_:Nat→Prop) (A0:Option Addr) (c0:Nat) (l0:List Int) (A1:Option Addr) (c1:Nat) (l1:List Int) (w:World) (hs0:Kd.V (Kd.int .u64) 72 w w.heap.size (fun k_=>P0_ k_) (.slice A0 l0.length c0) l0) (hr1:Kd.C (Kd.int .u64) w A1 l1.length l1) (hc1:l1.length≤c1) (c:Int)
  (hc:whole_amount_cmp.f k l0 l1=some c) (hlt:c<0) :
  Calls Tryz.prog 168 #[.slice A0 l0.length c0,.slice A1 l1.length c1] w fun e w'=>∃v0_ v1_:Value,e=.returned (.tuple #[v0_,v1_])∧Kd.V (Kd.int .u64) 72 w' w.heap.size (fun k_=>(P0_ k_∨w.heap.size≤k_)) v0_ []∧Kd.V (Kd.int .u64) 72 w' w.heap.size (fun k_=>(P0_ k_∨w.heap.size≤k_)) v1_ l0∧Below w.heap.size w w':=by
 have h0:=Kd.V_reads' hs0
 go_enter Tryz.func168,Tryz.ntmps168
 go_wp2_with (first|(go_at_call 127;refine(whole_amount_cmp.calls k _ _ l0 _ _ l1 c _ h0.2.2 h0.2.1 hr1 hc1 hc).mono ?_;rintro e w1 ⟨rfl,hd⟩;have HB:=Aside0.mk hd.below;clear hd))
 go_ret2
 exact⟨_,_,rfl,Kd.V_nil _ _ _ _ _,Kd.V_mono (Kd.V_below hs0 HB.out) (fun _ h=>.inl h),HB.out⟩
set_option maxHeartbeats 4000000 in
theorem quo_one (k:Nat) (P0_:Nat→Prop) (A0:Option Addr) (c0:Nat) (l0:List Int) (A1:Option Addr) (c1:Nat) (l1:List Int) (w:World) (hs0:Kd.V (Kd.int .u64) 72 w w.heap.size (fun k_=>P0_ k_) (.slice A0 l0.length c0) l0) (hr1:Kd.C (Kd.int .u64) w A1 l1.length l1) (hc1:l1.length≤c1) (c:Int) (q r2:List Int) (r:Int)
  (hc:whole_amount_cmp.f k l0 l1=some c) (hlt:¬c<0) (h1:l1.length=1) (hq:whole_amount_byLimb.f k l0 (rd l1 0)=some (q,r)) (hr:whole_trimmed.f k [r]=some r2) :
  Calls Tryz.prog 168 #[.slice A0 l0.length c0,.slice A1 l1.length c1] w fun e w'=>∃v0_ v1_:Value,e=.returned (.tuple #[v0_,v1_])∧Kd.V (Kd.int .u64) 72 w' w.heap.size (fun k_=>(P0_ k_∨w.heap.size≤k_)) v0_ q∧Kd.V (Kd.int .u64) 72 w' w.heap.size (fun k_=>(P0_ k_∨w.heap.size≤k_)) v1_ r2∧Below w.heap.size w w':=by
 have h0:=Kd.V_reads' hs0
 have b1:((l1.length:Int)==1)=true:=by rw[h1];rfl
 have b1':(l1.length==1)=true:=by rw[h1];rfl
 have HL:=Aside0.mk h1
 have hl0:0<l1.length:=by omega
 obtain⟨ad,rfl,hx⟩:=Kd.at_int hr1 0 (by omega) (by omega)
 have hxx:∀w1,Below w.heap.size w w1→w1.cell? ad=some (.int .u64 (rd l1 0)):=fun w1 hb=>by
  have:=(hb.cell (World.block_lt_of_cell? w _ hx)).trans hx
  rwa [show(0:Int).toNat=0 from rfl,Addr.add_zero']at this
 have HX:=Aside0.mk hxx
 clear hx hxx h1
 go_enter Tryz.func168,Tryz.ntmps168
 go_wp2_with (first
  | (go_at_call 127;refine(whole_amount_cmp.calls k _ _ l0 _ _ l1 c _ h0.2.2 h0.2.1 hr1 hc1 hc).mono ?_;rintro e w1 ⟨rfl,hd⟩;have HB:=Aside0.mk hd.below;clear hd;have hx0:=HX.out _ HB.out)
  | (go_at_call 55;refine(whole_amount_byLimb.calls k _ _ l0 (rd l1 0) q r _ (Kd.C_below h0.2.2 HB.out) h0.2.1 hq).mono ?_;rintro e w2 ⟨v0,rfl,hv0,hb2⟩;have HV0:=Aside0.mk hv0;have HB2:=Aside0.mk (HB.out.trans (hb2.mono HB.out.size));clear hv0 hb2)
  | (go_at_call 46;refine(whole_trimmed.calls k (fun k_=>w.heap.size≤k_) _ 1 [r] r2 _ (Seg.V (pre:=[]) (post:=[]) (xs:=[r]) (g:=w2.heap.size) (blk_new w2 _) HB2.out.size (Nat.le_refl 1) (by simp)) hr).mono ?_;rintro e w3 ⟨v1,rfl,hv1,hb3⟩;have HV1:=Aside0.mk hv1;have HB3:=Aside0.mk hb3;clear hv1 hb3))
 go_ret2
 have hba:Below w2.heap.size w2 w3:=(below_alloc (Below.refl _ _) _).trans (HB3.out.mono (by simp))
 have hB3:Below w.heap.size w w3:=HB2.out.trans (hba.mono HB2.out.size)
 refine⟨_,_,rfl,Kd.V_mono (Kd.V_below HV0.out hba) (fun k_ hk=>.inr (Nat.le_trans HB.out.size hk)),Kd.V_mono HV1.out (fun k_ hk=>.inr (hk.elim id (fun h=>Nat.le_trans HB2.out.size (by simp at h;omega)))),hB3⟩
theorem getElem_madeCells (z:Value) (m i:Nat) (hz:z.cells=#[z]) (h:i<m):(madeCells z.cells m)[i]? = some z:=by
 simp[madeCells,hz,h,Nat.mod_one]
theorem Seg.make (w4:World) (m:Nat) (h:m≤17592186044416):∃w5 gq,(Instr.makeSlice 23 (.int .i64 (m:Int)) (.int .i64 (m:Int))).run Tryz.prog w4=.ok (.slice (some ⟨gq,0,none⟩) m m) w5∧Seg w5 gq [] (List.replicate m 0) []∧Below w4.heap.size w4 w5∧w4.heap.size≤gq:=by
 obtain⟨i0,hi0,hz0,hz1,hz2⟩:=info_parts minfo59q
 have hr:=run_make (P:=Tryz.prog) w4 23 72 i0 (.int .u64 0) Tryz.underlying23 hi0 hz0 .i64 .i64 m m (by omega) (by omega) (by rw[hz2];omega) (by omega)
 simp only[Int.toNat_natCast,hz1,Nat.mul_one]at hr
 refine⟨_,_,hr,?_,below_alloc (Below.refl _ _) _,Nat.le_refl _⟩
 have he:madeCells (Value.int .u64 0).cells m=([]++(List.replicate m (0:Int)).map (Value.int .u64)++[]).toArray:=by
  apply Array.ext_getElem?
  intro i
  by_cases hi:i<m
  ·rw[getElem_madeCells _ _ _ rfl hi];simp[hi]
  rw[Array.getElem?_eq_none (by rw[size_madeCells];omega)];simp[hi]
 rw[he]
 exact blk_new w4 _
theorem Seg.cutTo {W:World} {g:Nat} {xs:List Int} {post:List Value} (h:Seg W g [] xs post) (n:Nat):Seg W g [] (xs.take n) ((xs.drop n).map (Value.int .u64)++post):=by
 unfold Seg at *
 rw[h]
 congr 3
 rw[List.nil_append,List.nil_append,←List.append_assoc,←List.map_append,List.take_append_drop]
theorem Seg.mid {W:World} {g:Nat} {a b c:List Int} {post:List Value}:Seg W g [] (a++b++c) post↔Seg W g (a.map (Value.int .u64)) b (c.map (Value.int .u64)++post):=by
 unfold Seg
 simp only[List.map_append,List.nil_append,List.append_assoc]
theorem splice_self (u:List Int) (j n:Nat) (h:j+n≤u.length):splice u j ((u.drop j).take n)=u:=by
 unfold splice
 rw[List.length_take,List.length_drop,Nat.min_eq_left (by omega)]
 rw[←List.drop_drop,List.append_assoc,List.take_append_drop,List.take_append_drop]
theorem splice_len (u:List Int) (j:Nat) (s:List Int) (h:j+s.length≤u.length):(splice u j s).length=u.length:=by
 unfold splice
 simp only[List.length_append,List.length_take,List.length_drop]
 omega
theorem sub_at (k j n gu cu gv cv:Nat) (U v:List Int) (pu pv:List Value) (g:Int) (b:Bool) (U1:List Int) (W:World) (hu:Seg W gu [] U pu) (hv:Seg W gv [] v pv) (hne:gv≠gu) (hj:j+n+1≤U.length) (hn:n≤v.length) (hm:n≤9223372036854775807)
  (h:whole_subtract.f k ((U.drop j).take (n+1)) (v.take n) g=some (b,U1)) :
  Calls Tryz.prog 226 #[.slice (some ⟨gu,j,none⟩) (n+1) cu,.slice (some ⟨gv,0,none⟩) n cv,.int .u64 g] W fun e w'=>e=.returned (.bool b)∧U1.length=n+1∧Seg w' gu [] (splice U j U1) pu∧KeepBut W w' gu none∧Below gu W w':=by
 have hx:((U.drop j).take (n+1)).length=n+1:=by rw[List.length_take,List.length_drop];omega
 have hp:((U.take j).map (Value.int .u64)).length=j:=by rw[List.length_map,List.length_take];omega
 have hvl:(v.take n).length=n:=by rw[List.length_take];omega
 have hu':=hu
 rw[←splice_self U j (n+1) (by omega)]at hu'
 unfold splice at hu'
 rw[Seg.mid]at hu'
 have:=subtract_seg k gu cu _ _ _ (some ⟨gv,0,none⟩) cv (v.take n) g b U1 W hu' (fun W' hk=>Seg.C (pre:=[]) ((hv.keep hk hne).cutTo n) (by omega)) h
 rw[hp,hx,hvl]at this
 refine this.mono ?_
 rintro e w' ⟨he,hl,hs,hk⟩
 refine⟨he,hl,?_,hk⟩
 unfold splice
 rw[Seg.mid,hl]
 exact hs
theorem add_at (k j n gu cu gv cv:Nat) (U v:List Int) (pu pv:List Value) (U1 s:List Int) (W:World) (hu:Seg W gu [] (splice U j U1) pu) (hv:Seg W gv [] v pv) (hne:gv≠gu) (hj:j+n+1≤U.length) (hl:U1.length=n+1) (hn:n≤v.length) (hm:n≤9223372036854775807)
  (h:whole_add.f k U1 (v.take n)=some s) :
  Calls Tryz.prog 227 #[.slice (some ⟨gu,j,none⟩) (n+1) cu,.slice (some ⟨gv,0,none⟩) n cv] W fun e w'=>e=.returned (.tuple #[])∧s.length=n+1∧Seg w' gu [] (splice U j s) pu∧KeepBut W w' gu none∧Below gu W w':=by
 have hp:((U.take j).map (Value.int .u64)).length=j:=by rw[List.length_map,List.length_take];omega
 have hvl:(v.take n).length=n:=by rw[List.length_take];omega
 have hu':=hu
 unfold splice at hu'
 rw[Seg.mid]at hu'
 have:=add_seg k gu cu _ _ _ (some ⟨gv,0,none⟩) cv (v.take n) s W hu' (fun W' hk=>Seg.C (pre:=[]) ((hv.keep hk hne).cutTo n) (by omega)) h
 rw[hp,hl,hvl]at this
 refine this.mono ?_
 rintro e w' ⟨he,hl',hs,hk⟩
 refine⟨he,hl',?_,hk⟩
 unfold splice
 rw[Seg.mid,hl']
 exact hs
theorem cut_mid (gu:Nat) (n c:Nat) (j h:Int) (h0:0≤j) (h1:j<h) (h2:h≤c) (W:World) :
  (Instr.slice 23 (.slice (some ⟨gu,0,none⟩) n c) (some (.int .i64 j)) (some (.int .i64 h)) none).run Tryz.prog W=.ok (.slice (some ⟨gu,j.toNat,none⟩) (h-j).toNat (c-j.toNat)) W:=by
 obtain⟨i0,hi,hz0,hz1,hz2⟩:=info_parts minfo59q
 have hel:Tryz.prog.elem 23=72:=by simp[Program.elem,Tryz.underlying23]
 have hu:Tryz.prog.underlying 23=some (.slice (Tryz.prog.elem 23)):=by rw[hel];exact Tryz.underlying23
 rw[run_slice_lh W 23 _ n c hu .i64 .i64 j h h0 (by omega) h2,hel]
 have e1:c≠j.toNat:=by omega
 have e2:(Addr.add ⟨gu,0,none⟩ j.toNat)=⟨gu,j.toNat,none⟩:=by
  unfold Addr.add
  split<;>simp_all
 have e3:h.toNat-j.toNat=(h-j).toNat:=by omega
 simp[sizeOf,typeInfo,hi,hz1,sliced,Result.andThen,e1,e2,e3]
theorem rd_take (l:List Int) (n:Nat) (i:Int) (h0:0≤i) (h:i<n):rd (l.take n) i=rd l i:=by
 simp[rd,List.getD_eq_getElem?_getD,show i.toNat<n from by omega]
theorem quo_more (k:Nat) (P0_:Nat→Prop) (A0:Option Addr) (c0:Nat) (l0:List Int) (A1:Option Addr) (c1:Nat) (l1:List Int) (w:World) (hs0:Kd.V (Kd.int .u64) 72 w w.heap.size (fun k_=>P0_ k_) (.slice A0 l0.length c0) l0) (hr1:Kd.C (Kd.int .u64) w A1 l1.length l1) (hc1:l1.length≤c1) (c s:Int) (v u rU rQ q r0 r:List Int)
  (hc:whole_amount_cmp.f k l0 l1=some c) (hlt:¬c<0) (h1:¬l1.length=1) (h2:l1.length<l0.length+1) (h3:2≤l1.length) (h4:l0.length<17592186044416)
  (hs:bits_LeadingZeros64.f (rd l1 ((l1.length:Int)-1))=some s) (hs1:0≤s) (hs2:s≤64) (hv:whole_amount_up.f k l1 s=some v) (hu:whole_amount_up.f k l0 s=some u) (hv1:l1.length≤v.length) (hu1:l1.length≤u.length)
  (hg:quo_go k u (v.take l1.length) (List.replicate (l0.length-l1.length+1) 0) ((l0.length:Int)-(l1.length:Int))=some (rU,rQ))
  (hq:whole_trimmed.f k rQ=some q) (hr0:whole_trimmed.f k (rU.take l1.length)=some r0) (hr:whole_amount_down.f k r0 s=some r) :
  Calls Tryz.prog 168 #[.slice A0 l0.length c0,.slice A1 l1.length c1] w fun e w'=>∃v0_ v1_:Value,e=.returned (.tuple #[v0_,v1_])∧Kd.V (Kd.int .u64) 72 w' w.heap.size (fun k_=>(P0_ k_∨w.heap.size≤k_)) v0_ q∧Kd.V (Kd.int .u64) 72 w' w.heap.size (fun k_=>(P0_ k_∨w.heap.size≤k_)) v1_ r∧Below w.heap.size w w':=by
 have h0:=Kd.V_reads' hs0
 have b1:((l1.length:Int)==1)=false:=by rw[beq_eq_false_iff_ne];omega
 have b1':(l1.length==1)=false:=by rw[beq_eq_false_iff_ne];omega
 have hl0:(l1.length:Int)-1<l1.length:=by omega
 have hl1:0≤(l1.length:Int)-1:=by omega
 have wl1:wrap64 ((l1.length:Int)-1)=(l1.length:Int)-1:=IntWalk.wrap64_in _ ⟨by omega,by omega⟩
 obtain⟨ad,rfl,hx⟩:=Kd.at_int hr1 ((l1.length:Int)-1) (by omega) (by omega)
 have hxx:∀w1,Below w.heap.size w w1→w1.cell? (ad.add (l1.length-1))=some (.int .u64 (rd l1 ((l1.length:Int)-1))):=fun w1 hb=>by
  rw[show l1.length-1=((l1.length:Int)-1).toNat from by omega]
  exact(hb.cell (World.block_lt_of_cell? w _ hx)).trans hx
 have HX:=Aside0.mk hxx
 clear hx hxx h1 wl1
 go_enter Tryz.func168,Tryz.ntmps168
 go_wp2_with (first
  | (go_at_call 127;refine(whole_amount_cmp.calls k _ _ l0 _ _ l1 c _ h0.2.2 h0.2.1 hr1 hc1 hc).mono ?_;rintro e w1 ⟨rfl,hd⟩;have HB:=Aside0.mk hd.below;clear hd;have hx0:=HX.out _ HB.out)
  | (go_at_call 180;refine(bits_LeadingZeros64.calls _ s _ hs).mono ?_;rintro e w2 ⟨rfl,hd⟩;have HB2:=Aside0.mk (HB.out.trans (hd.below.mono HB.out.size));clear hd hx0)
  | (go_at_call 225;(with_reducible refine(whole_amount_up.calls k _ _ l1 s v _ ?sv hc1 hv).mono ?_);(case sv=>exact Kd.C_below hr1 HB2.out);rintro e w3 ⟨vv,rfl,hR,hb⟩;obtain⟨gv,cv,pv,rfl,hgv,hlv,hcv,hsv⟩:=Seg.of_R hR (by omega);have HSV:=Aside0.mk hsv;have HB3:=Aside0.mk (HB2.out.trans (hb.mono HB2.out.size));have HGV:=Aside0.mk (Nat.le_trans HB2.out.size hgv);clear hR hb hsv hgv;obtain⟨i0,hi0,_,_,_⟩:=info_parts minfo59q;have hcut:=cut_to (P:=Tryz.prog) 23 72 .i64 Tryz.underlying23 hi0 (some ⟨gv,0,none⟩) v.length cv (l1.length:Int) (by omega) (by omega) hlv;simp only[Int.toNat_natCast]at hcut)
  | (go_at_call 225;(with_reducible refine(whole_amount_up.calls k _ _ l0 s u _ ?su h0.2.1 hu).mono ?_);(case su=>exact Kd.C_below h0.2.2 HB3.out);rintro e w4 ⟨uu,rfl,hR,hb⟩;obtain⟨gu,cu,pu,rfl,hgu,hlu,hcu,hsu⟩:=Seg.of_R hR (by omega);have HNE:=Aside0.mk (show gv≠gu from by have:=HSV.out.lt;omega);have hsv3:=HSV.out;have HB4:=Aside0.mk (HB3.out.trans (hb.mono HB3.out.size));have HGU:=Aside0.mk (Nat.le_trans HB3.out.size hgu);obtain⟨w5,gq,hmk,hsq,hbq,hgq⟩:=Seg.make w4 (l0.length-l1.length+1) (by omega);rw[show((l0.length-l1.length+1:Nat):Int)=(l0.length:Int)-(l1.length:Int)+1 from by omega]at hmk;have HSV5:=Aside0.mk ((hsv3.below hb).below hbq);have HSU5:=Aside0.mk (hsu.below hbq);have HSQ5:=Aside0.mk hsq;have HB5:=Aside0.mk (HB4.out.trans (hbq.mono HB4.out.size));have HNQ:=Aside0.mk (show gq≠gv∧gq≠gu from by have h1:=(hsv3.below hb).lt;have h2:=hsu.lt;omega);have HGQ:=Aside0.mk (Nat.le_trans HB4.out.size hgq);clear hR hb hsu hgu hcut hsv3 hsq hbq hgq))
 clear hmk
 have hVl:(v.take l1.length).length=l1.length:=by rw[List.length_take];omega
 have HG:=Aside0.mk hg
 clear hg
 go_loopg [14] k (fun kq v14 w'=>∃(U Q:List Int) (j:Int),v14=.int .i64 j∧Aside0 (quo_go kq U (v.take l1.length) Q j=some (rU,rQ))∧Aside0 (kq≤k)∧Aside0 (U.length=u.length)∧Aside0 (Q.length=l0.length-l1.length+1)∧Aside0 (Seg w' gv [] v pv)∧Aside0 (Seg w' gu [] U pu)∧Aside0 (Seg w' gq [] Q [])∧Aside0 (Below w.heap.size w w'))
 case atStart=>exact⟨u,_,_,rfl,HG,⟨Nat.le_refl _⟩,⟨rfl⟩,⟨by simp⟩,HSV5,HSU5,HSQ5,HB5⟩
 case round=>
  clear HG HSV5 HSU5 HSQ5 HB5 HSV
  obtain⟨U,Q,j,rfl,HA,HK1,HLU,HLQ,HSV,HSU,HSQ,HB⟩:=hrel
  cases gk with
  | zero=>exact absurd HA.out (by simp[quo_go])
  | succ k1=>
   have H:=HA.out
   clear HA
   simp only[quo_go,hVl,HLU.out,HLQ.out]at H
   by_cases cj:j<0
   ·rw[if_pos cj,Option.some.injEq,Prod.mk.injEq]at H
    obtain⟨rfl,rfl⟩:=H
    have HBW:∀W,Below wr.heap.size wr W→w.heap.size≤W.heap.size:=fun W hb=>Nat.le_trans HB.out.size hb.size
    have TQ:=Aside0.mk (show ∀W,Below wr.heap.size wr W→Calls Tryz.prog 46 #[.slice (some ⟨gq,0,none⟩) (l0.length-l1.length+1) (l0.length-l1.length+1)] W fun e w'=>∃v0_:Value,e=.returned (v0_)∧Kd.V (Kd.int .u64) 72 w' w.heap.size (fun k_=>w.heap.size≤k_) v0_ q∧Below W.heap.size W w'∧Below wr.heap.size wr w' from fun W hb=>by
     have:=whole_trimmed.calls k (fun k_=>w.heap.size≤k_) (some ⟨gq,0,none⟩) (l0.length-l1.length+1) Q q W (Seg.V (pre:=[]) (HSQ.out.below hb) HGQ.out (by rw[HLQ.out];omega) (by rw[HLQ.out];omega)) hq
     rw[HLQ.out]at this
     refine this.mono ?_
     rintro e w' ⟨v,he,hv,hb'⟩
     exact⟨v,he,Kd.V_lower (Kd.V_mono hv (fun k_ hk=>hk.elim id (fun h=>Nat.le_trans (HBW W hb) h))) (HBW W hb),hb',hb.trans (hb'.mono hb.size)⟩)
    have TU:=Aside0.mk (show ∀W,Below wr.heap.size wr W→Calls Tryz.prog 46 #[.slice (some ⟨gu,0,none⟩) l1.length cu] W fun e w'=>∃v0_:Value,e=.returned (v0_)∧(∃A c,v0_=.slice A r0.length c∧r0.length≤c∧Kd.C (Kd.int .u64) w' A r0.length r0)∧Below W.heap.size W w'∧Below wr.heap.size wr w' from fun W hb=>by
     have hl:(U.take l1.length).length=l1.length:=by rw[List.length_take,HLU.out];omega
     have:=whole_trimmed.calls k (fun k_=>w.heap.size≤k_) (some ⟨gu,0,none⟩) cu (U.take l1.length) r0 W (Seg.V (pre:=[]) ((HSU.out.below hb).cutTo _) HGU.out (by rw[hl];omega) (by rw[hl];omega)) hr0
     rw[hl]at this
     refine this.mono ?_
     rintro e w' ⟨v,he,hv,hb'⟩
     obtain⟨A,c,rfl,hc,-⟩:=id hv
     exact⟨_,he,⟨A,c,rfl,hc,(Kd.V_reads' hv).2.2⟩,hb',hb.trans (hb'.mono hb.size)⟩)
    have TD:=Aside0.mk (show ∀W A c,Below wr.heap.size wr W→r0.length≤c→Kd.C (Kd.int .u64) W A r0.length r0→Calls Tryz.prog 228 #[.slice A r0.length c,.int .u64 s] W fun e w'=>∃v0_:Value,e=.returned (v0_)∧Kd.V (Kd.int .u64) 72 w' w.heap.size (fun k_=>w.heap.size≤k_) v0_ r∧Below W.heap.size W w'∧Below wr.heap.size wr w' from fun W A c hb hcl hC=>by
     refine(whole_amount_down.calls k A c r0 s r W hC hcl hr).mono ?_
     rintro e w' ⟨v,he,hv,hb'⟩
     exact⟨v,he,Kd.V_lower (Kd.V_mono hv (fun k_ hk=>Nat.le_trans (HBW W hb) hk)) (HBW W hb),hb',hb.trans (hb'.mono hb.size)⟩)
    have HBC:=Aside0.mk (Below.refl wr.heap.size wr)
    obtain⟨i1,hi1,_,_,_⟩:=info_parts minfo59q
    have hcut:=cut_to (P:=Tryz.prog) 23 72 .i64 Tryz.underlying23 hi1 (some ⟨gu,0,none⟩) u.length cu (l1.length:Int) (by omega) (by omega) hlu
    simp only[Int.toNat_natCast]at hcut
    clear hr hq hr0 HBW
    go_upto_region 28 with(fail)
    go_region_with (first
     | (go_at_call_of 46 gq;refine(TQ.out _ ?hbt).mono ?_;(case hbt=>(first|exact HBC.out|exact pw_below_drewN HBC.out _|exact pw_below_drewN HBC.out 1));rintro e w8 ⟨vq,rfl,hvq,hb,hbc⟩;(try replace HCU:=Aside0.mk (Kd.C_below HCU.out hb));(try replace HVR:=Aside0.mk (Kd.V_below HVR.out hb));have HVQ:=Aside0.mk hvq;clear HBC;have HBC:=Aside0.mk hbc;clear hvq hb hbc)
     | (go_at_call_of 46 gu;refine(TU.out _ ?hbt).mono ?_;(case hbt=>(first|exact HBC.out|exact pw_below_drewN HBC.out _|exact pw_below_drewN HBC.out 1));rintro e w8 ⟨vu,rfl,⟨au,cu',rfl,hcu',hc⟩,hb,hbc⟩;(try replace HVQ:=Aside0.mk (Kd.V_below HVQ.out hb));have HCU:=Aside0.mk hc;have HCC:=Aside0.mk hcu';clear HBC;have HBC:=Aside0.mk hbc;clear hb hc hcu' hbc)
     | (go_at_call 228;refine(TD.out _ _ _ ?hbt HCC.out ?hcd).mono ?_;(case hbt=>(first|exact HBC.out|exact pw_below_drewN HBC.out _|exact pw_below_drewN HBC.out 1));(case hcd=>exact HCU.out);rintro e w8 ⟨vr,rfl,hvr,hb,hbc⟩;(try replace HVQ:=Aside0.mk (Kd.V_below HVQ.out hb));have HVR:=Aside0.mk hvr;clear HBC;have HBC:=Aside0.mk hbc;clear hvr hb hbc))
    all_goals go_wp2
    all_goals go_ret2
    all_goals exact⟨_,_,rfl,Kd.V_mono HVQ.out (fun _ h=>.inr h),Kd.V_mono HVR.out (fun _ h=>.inr h),HB.out.trans (HBC.out.mono HB.out.size)⟩
   rw[if_neg cj]at H
   by_cases c1:j+(l1.length:Int)<(u.length:Int)∧j<((l0.length-l1.length+1:Nat):Int)∧2≤l1.length
   ·rw [if_pos c1]at H
    obtain⟨c1,c2,_⟩:=c1
    obtain⟨g,hgs,H⟩:=Option.bind_eq_some_iff.mp H
    obtain⟨⟨b,U1⟩,hsub,H⟩:=Option.bind_eq_some_iff.mp H
    have H:=Aside0.mk H
    have HSB:=Aside0.mk hsub
    clear hsub
    have hu0:=HSU.out.cell0 (j+(l1.length:Int)) (by omega) (by rw[HLU.out];omega)
    have hu1:=HSU.out.cell0 (j+(l1.length:Int)-1) (by omega) (by rw[HLU.out];omega)
    have hu2:=HSU.out.cell0 (j+(l1.length:Int)-2) (by omega) (by rw[HLU.out];omega)
    have hv0:=HSV.out.cell0 ((l1.length:Int)-1) (by omega) (by omega)
    have hv1:=HSV.out.cell0 ((l1.length:Int)-2) (by omega) (by omega)
    rw[←rd_take v l1.length _ (by omega) (by omega)]at hv0 hv1
    rw[show((l1.length:Int)-1).toNat=l1.length-1 from by omega]at hv0
    rw[show(j+(l1.length:Int)-1).toNat=(j+(l1.length:Int)).toNat-1 from by omega]at hu1
    rw[show((l1.length:Int)-2).toNat=l1.length-2 from by omega]at hv1
    generalize hun0:rd U (j+(l1.length:Int))=un0 at hu0 hgs
    generalize hun1:rd U (j+(l1.length:Int)-1)=un1 at hu1 hgs
    generalize hun2:rd U (j+(l1.length:Int)-2)=un2 at hu2 hgs
    generalize hvn1:rd (v.take l1.length) ((l1.length:Int)-1)=vn1 at hv0 hgs
    generalize hvn2:rd (v.take l1.length) ((l1.length:Int)-2)=vn2 at hv1 hgs
    clear hun0 hun1 hun2 hvn1 hvn2
    have HGS:=Aside0.mk hgs
    clear hgs
    go_wp2
    go_quiet (fail)
    go_upto_if 83 with(fail)
    go_cut [15] (fun v15 wc=>v15=.int .u64 g∧Aside0 (Seg wc gv [] v pv)∧Aside0 (Seg wc gu [] U pu)∧Aside0 (Seg wc gq [] Q [])∧Aside0 (Below w.heap.size w wc))
    case first=>
     replace HGS:=HGS.out
     by_cases cg:un0<vn1
     ·simp only[quo_guess,if_pos cg]at HGS
      obtain⟨⟨g0,t0⟩,hdiv,HGS⟩:=Option.bind_eq_some_iff.mp HGS
      replace HGS:=Aside0.mk HGS
      have HDV:=Aside0.mk hdiv
      clear hdiv
      go_wp2
      go_quiet (first|(go_at_call 119;refine(bits_Div64.calls k1 un0 un1 vn1 g0 t0 _ HDV.out).mono ?_;rintro e w' ⟨rfl,⟨nd,rfl⟩⟩;exact⟨rfl,_,by rw[World.drewN_drewN,Nat.add_assoc]⟩))
      go_wp2
      go_loopg [15,16] k1 (fun kr v15 v16 w'=>∃(x15 x16:Int),v15=.int .u64 x15∧v16=.int .u64 x16∧Aside0 (quo_fix kr x15 x16 vn2 vn1 un2=some g)∧Aside0 (kr≤k1)∧Aside0 (∃m,w'=wr.drewN m))
      case atStart=>exact⟨_,_,rfl,rfl,HGS,⟨Nat.le_refl _⟩,⟨_,by rw[World.drewN_drewN]⟩⟩
      case round=>
       obtain⟨x15,x16,rfl,rfl,HA,HK2,HW⟩:=hrel
       obtain⟨m,rfl⟩:=HW.out
       clear HW
       cases gk with
       | zero=>exact absurd HA.out (by simp[quo_fix])
       | succ k2=>
        have H:=HA.out
        clear HA
        simp only[quo_fix]at H
        obtain⟨⟨hi,lo⟩,hmul,H⟩:=Option.bind_eq_some_iff.mp H
        have HM:=Aside0.mk hmul
        clear hmul
        simp only at H
        by_cases d1:hi<x16
        ·rw[if_pos d1,Option.some.injEq]at H
         subst H
         go_wp2_with (first|(go_at_call 113;refine(bits_Mul64.calls _ _ hi lo _ HM.out).mono ?_;rintro e w' ⟨rfl,⟨nd,rfl⟩⟩))
         go_meet
         case rel=>exact⟨rfl,⟨by simpa only[World.drewN_drewN] using HSV.out.drewN _⟩,⟨by simpa only[World.drewN_drewN] using HSU.out.drewN _⟩,⟨by simpa only[World.drewN_drewN] using HSQ.out.drewN _⟩,⟨by simpa only[World.drewN_drewN] using pw_below_drewN HB.out _⟩⟩
        rw[if_neg d1]at H
        by_cases d2:hi=x16
        ·subst d2
         by_cases d4:lo≤un2
         ·rw[if_pos ⟨rfl,d4⟩,Option.some.injEq]at H
          subst H
          go_wp2_with (first|(go_at_call 113;refine(bits_Mul64.calls _ _ hi lo _ HM.out).mono ?_;rintro e w' ⟨rfl,⟨nd,rfl⟩⟩))
          go_meet
          case rel=>exact⟨rfl,⟨by simpa only[World.drewN_drewN] using HSV.out.drewN _⟩,⟨by simpa only[World.drewN_drewN] using HSU.out.drewN _⟩,⟨by simpa only[World.drewN_drewN] using HSQ.out.drewN _⟩,⟨by simpa only[World.drewN_drewN] using pw_below_drewN HB.out _⟩⟩
         rw[if_neg (fun h=>d4 h.2)]at H
         by_cases d3:IntKind.u64.wrap (hi+vn1)<hi
         ·rw[if_pos d3,Option.some.injEq]at H
          subst H
          go_wp2_with (first|(go_at_call 113;refine(bits_Mul64.calls _ _ hi lo _ HM.out).mono ?_;rintro e w' ⟨rfl,⟨nd,rfl⟩⟩))
          go_meet
          case rel=>exact⟨rfl,⟨by simpa only[World.drewN_drewN] using HSV.out.drewN _⟩,⟨by simpa only[World.drewN_drewN] using HSU.out.drewN _⟩,⟨by simpa only[World.drewN_drewN] using HSQ.out.drewN _⟩,⟨by simpa only[World.drewN_drewN] using pw_below_drewN HB.out _⟩⟩
         rw[if_neg d3]at H
         have H:=Aside0.mk H
         go_wp2_with (first|(go_at_call 113;refine(bits_Mul64.calls _ _ hi lo _ HM.out).mono ?_;rintro e w' ⟨rfl,⟨nd,rfl⟩⟩))
         go_roundg k2
         case measure=>have:=HK2.out;omega
         case rel=>exact⟨_,_,rfl,rfl,H,⟨by have:=HK2.out;omega⟩,⟨m+nd,by first|rfl|simp only[World.drewN_drewN]⟩⟩
        rw[if_neg (fun h=>d2 h.1)]at H
        by_cases d3:IntKind.u64.wrap (x16+vn1)<x16
        ·rw[if_pos d3,Option.some.injEq]at H
         subst H
         go_wp2_with (first|(go_at_call 113;refine(bits_Mul64.calls _ _ hi lo _ HM.out).mono ?_;rintro e w' ⟨rfl,⟨nd,rfl⟩⟩))
         go_meet
         case rel=>exact⟨rfl,⟨by simpa only[World.drewN_drewN] using HSV.out.drewN _⟩,⟨by simpa only[World.drewN_drewN] using HSU.out.drewN _⟩,⟨by simpa only[World.drewN_drewN] using HSQ.out.drewN _⟩,⟨by simpa only[World.drewN_drewN] using pw_below_drewN HB.out _⟩⟩
        rw[if_neg d3]at H
        have H:=Aside0.mk H
        go_wp2_with (first|(go_at_call 113;refine(bits_Mul64.calls _ _ hi lo _ HM.out).mono ?_;rintro e w' ⟨rfl,⟨nd,rfl⟩⟩))
        go_roundg k2
        case measure=>have:=HK2.out;omega
        case rel=>exact⟨_,_,rfl,rfl,H,⟨by have:=HK2.out;omega⟩,⟨m+nd,by first|rfl|simp only[World.drewN_drewN]⟩⟩
     simp only[quo_guess,if_neg cg,Option.some.injEq]at HGS
     subst HGS
     go_wp2
     go_meet
     case rel=>exact⟨rfl,⟨HSV.out.drewN _⟩,⟨HSU.out.drewN _⟩,⟨HSQ.out.drewN _⟩,⟨pw_below_drewN HB.out _⟩⟩
    case rest=>
     obtain⟨rfl,HSV1,HSU1,HSQ1,HB1⟩:=hcut
     clear HSV HSU HSQ HB hu0 hu1 hu2 hv0 hv1 HGS
     have hcm:=cut_mid gu u.length cu j (j+(l1.length:Int)+1) (by omega) (by omega) (by omega)
     rw[show(j+(l1.length:Int)+1-j).toNat=l1.length+1 from by omega]at hcm
     have HLU':=HLU.out
     have hsa:=fun W hu hv=>sub_at k1 j.toNat l1.length gu (cu-j.toNat) gv cv U v pu pv g b U1 W hu hv HNE.out (by omega) (by omega) (by omega) HSB.out
     have HSA:=Aside0.mk hsa
     clear hsa HLU'
     cases b with
     | true=>
      replace H:=H.out
      clear HSB
      rw[if_pos rfl]at H
      obtain⟨S1,hadd,H⟩:=Option.bind_eq_some_iff.mp H
      have HF:=Aside0.mk H
      clear H
      have HAD:=Aside0.mk hadd
      clear hadd
      go_wp2_with (first
       | (go_at_call 226;refine(HSA.out _ HSU1.out HSV1.out).mono ?_;rintro e w6 ⟨rfl,hl1,hs1,hk1,hb1⟩;have HL1:=Aside0.mk hl1;have HSU2:=Aside0.mk hs1;have HSV2:=Aside0.mk (HSV1.out.keep hk1 HNE.out);have HSQ2:=Aside0.mk (HSQ1.out.keep hk1 HNQ.out.2);have HB2':=Aside0.mk (HB1.out.trans (hb1.mono HGU.out));clear hl1 hs1 hk1 hb1)
       | (go_at_call 227;refine(add_at k1 j.toNat l1.length gu (cu-j.toNat) gv cv U v pu pv U1 S1 _ HSU2.out HSV2.out HNE.out (by have:=HLU.out;omega) HL1.out (by omega) (by omega) HAD.out).mono ?_;rintro e w7 ⟨rfl,hl1,hs1,hk1,hb1⟩;have HL3:=Aside0.mk hl1;have HSU3:=Aside0.mk hs1;have HSV3:=Aside0.mk (HSV2.out.keep hk1 HNE.out);have HSQ3:=Aside0.mk (HSQ2.out.keep hk1 HNQ.out.2);have HB3':=Aside0.mk (HB2'.out.trans (hb1.mono HGU.out));have hqc:=HSQ3.out.cell0 j (by omega) (by rw[HLQ.out];omega);have hqf:=HSQ3.out.free j.toNat;clear hl1 hs1 hk1 hb1))
      go_roundg k1
      case measure=>have:=HK1.out;omega
      case rel=>
       have hp:=HSQ3.out.put0 j (IntKind.u64.wrap (g-1)) (by omega) (by rw[HLQ.out];omega)
       exact⟨splice U j.toNat S1,_,_,rfl,HF,⟨by have:=HK1.out;omega⟩,⟨by rw[splice_len _ _ _ (by rw[HL3.out];have:=HLU.out;omega)];exact HLU.out⟩,⟨by rw[List.length_set];exact HLQ.out⟩,⟨by first|exact HSV3.out.far HNQ.out.1.symm _|exact(HSV3.out.drewN _).far HNQ.out.1.symm _⟩,⟨by first|exact HSU3.out.far HNQ.out.2.symm _|exact(HSU3.out.drewN _).far HNQ.out.2.symm _⟩,⟨by first|exact hp|exact hp.drewN _⟩,⟨by first|exact HB3'.out.setCell HGQ.out _|exact(pw_below_drewN HB3'.out _).setCell HGQ.out _⟩⟩
     | false=>
      replace H:=H.out
      clear HSB
      rw[if_neg (by simp)]at H
      have HF:=Aside0.mk H
      clear H
      go_wp2_with (first
       | (go_at_call 226;refine(HSA.out _ HSU1.out HSV1.out).mono ?_;rintro e w6 ⟨rfl,hl1,hs1,hk1,hb1⟩;have HL1:=Aside0.mk hl1;have HSU2:=Aside0.mk hs1;have HSV2:=Aside0.mk (HSV1.out.keep hk1 HNE.out);have HSQ2:=Aside0.mk (HSQ1.out.keep hk1 HNQ.out.2);have HB2':=Aside0.mk (HB1.out.trans (hb1.mono HGU.out));have hqc:=HSQ2.out.cell0 j (by omega) (by rw[HLQ.out];omega);have hqf:=HSQ2.out.free j.toNat;clear hl1 hs1 hk1 hb1))
      go_roundg k1
      case measure=>have:=HK1.out;omega
      case rel=>
       have hp:=HSQ2.out.put0 j g (by omega) (by rw[HLQ.out];omega)
       exact⟨splice U j.toNat U1,_,_,rfl,HF,⟨by have:=HK1.out;omega⟩,⟨by rw[splice_len _ _ _ (by rw[HL1.out];have:=HLU.out;omega)];exact HLU.out⟩,⟨by rw[List.length_set];exact HLQ.out⟩,⟨by first|exact HSV2.out.far HNQ.out.1.symm _|exact(HSV2.out.drewN _).far HNQ.out.1.symm _⟩,⟨by first|exact HSU2.out.far HNQ.out.2.symm _|exact(HSU2.out.drewN _).far HNQ.out.2.symm _⟩,⟨by first|exact hp|exact hp.drewN _⟩,⟨by first|exact HB2'.out.setCell HGQ.out _|exact(pw_below_drewN HB2'.out _).setCell HGQ.out _⟩⟩
   rw[if_neg c1]at H;exact absurd H (by simp)
theorem whole_amount_quo.calls (k:Nat) (P0_:Nat→Prop) (A0:Option Addr) (c0:Nat) (l0:List Int) (A1:Option Addr) (c1:Nat) (l1:List Int) (r1 r2:List Int) (w:World) (hs0:Kd.V (Kd.int .u64) 72 w w.heap.size (fun k_=>P0_ k_) (.slice A0 l0.length c0) l0) (hr1:Kd.C (Kd.int .u64) w A1 l1.length l1) (hc1:l1.length≤c1) (h:whole_amount_quo.f k l0 l1=some (r1,r2)) :
  Calls Tryz.prog 168 #[.slice A0 l0.length c0,.slice A1 l1.length c1] w fun e w'=>∃v0_ v1_:Value,e=.returned (.tuple #[v0_,v1_])∧Kd.V (Kd.int .u64) 72 w' w.heap.size (fun k_=>(P0_ k_∨w.heap.size≤k_)) v0_ r1∧Kd.V (Kd.int .u64) 72 w' w.heap.size (fun k_=>(P0_ k_∨w.heap.size≤k_)) v1_ r2∧Below w.heap.size w w':=by
 unfold whole_amount_quo.f at h
 obtain⟨c,hc,h⟩:=Option.bind_eq_some_iff.mp h
 by_cases hlt:c<0
 ·rw[if_pos hlt,Option.some.injEq,Prod.mk.injEq]at h
  obtain⟨rfl,rfl⟩:=h
  exact quo_less k P0_ A0 c0 l0 A1 c1 l1 w hs0 hr1 hc1 c hc hlt
 rw[if_neg hlt]at h
 by_cases h1:l1.length=1
 ·rw[if_pos h1]at h
  obtain⟨⟨q,r⟩,hq,h⟩:=Option.bind_eq_some_iff.mp h
  obtain⟨t,ht,h⟩:=Option.bind_eq_some_iff.mp h
  rw[Option.some.injEq,Prod.mk.injEq]at h
  obtain⟨rfl,rfl⟩:=h
  exact quo_one k P0_ A0 c0 l0 A1 c1 l1 w hs0 hr1 hc1 c _ _ r hc hlt h1 hq ht
 rw[if_neg h1]at h
 by_cases h2:l1.length<l0.length+1∧2≤l1.length∧l0.length<17592186044416
 ·rw[if_pos h2]at h
  obtain⟨s,hs,h⟩:=Option.bind_eq_some_iff.mp h
  by_cases h3:0≤s∧s≤64
  ·rw[if_pos h3]at h
   obtain⟨v,hv,h⟩:=Option.bind_eq_some_iff.mp h
   obtain⟨u,hu,h⟩:=Option.bind_eq_some_iff.mp h
   by_cases h4:l1.length≤v.length∧l1.length≤u.length
   ·rw[if_pos h4]at h
    obtain⟨⟨rU,rQ⟩,hg,h⟩:=Option.bind_eq_some_iff.mp h
    obtain⟨q,hq,h⟩:=Option.bind_eq_some_iff.mp h
    obtain⟨r0,hr0,h⟩:=Option.bind_eq_some_iff.mp h
    obtain⟨r,hr,h⟩:=Option.bind_eq_some_iff.mp h
    rw[Option.some.injEq,Prod.mk.injEq]at h
    obtain⟨rfl,rfl⟩:=h
    exact quo_more k P0_ A0 c0 l0 A1 c1 l1 w hs0 hr1 hc1 c s v u rU rQ _ r0 _ hc hlt h1 h2.1 h2.2.1 h2.2.2 hs h3.1 h3.2 hv hu h4.1 h4.2 hg hq hr0 hr
   rw[if_neg h4]at h;cases h
  rw[if_neg h3]at h;cases h
 rw[if_neg h2]at h;cases h
end Go.Proofs.YtikencoikigllaaGreatDoor.Mine
namespace Go.Proofs.YtikencoikigllaaGreatDoor.PRy
open Go.RowKit Go.Proofs.YtikencoikigllaaGreatDoorW.PrintWords Go.Proofs.YtikencoikigllaaGreatDoorW.PrintLast Go.Proofs.YtikencoikigllaaGreatDoorW.PrintMore
open Go.Proofs.YtikencoikigllaaGreatDoor.Mine
attribute [local go_sem] max2_int min2_int max_two min_two max_three min_three max_four min_four
def whole_number_cut.f (k:Nat) (l0_0:List Int) (a0_1:Bool) (l1_0:List Int) (a1_1:Bool):Option (List Int×Bool×List Int×Bool):=(whole_amount_quo.f k l0_0 l1_0).bind fun bt218=>((whole_signed.f bt218.1 (a0_1 != a1_1)).bind fun bt224=>((whole_signed.f bt218.2 a0_1).bind fun bt228=>(some (bt224.1,bt224.2,bt228.1,bt228.2))))
def whole_number_cut.T2:Bool×List (List Nat×List Nat):=(true,[([],[]),([],[]),([1],[1]),([],[]),([3],[3]),([2,4],[2,4]),([0,5],[0,5]),([],[]),([],[]),([8],[8]),([7,9,6],[7,9]),([6,10,0,1,2,3,4,5,6],[6]),([10,11,0,1,2,3,4,5,6,7,8,9,10,11],[10])])
def whole_number_cut.B2:List Nat:=[0,0,2,0,8,30,63,0,0,256,1023,2047,4095]
theorem whole_number_cut.tab2:rtab .any (opsOf Tryz.f98 2)=whole_number_cut.T2:=by kernel_rfl
theorem whole_number_cut.bits2:waitsOk whole_number_cut.T2.2 whole_number_cut.B2=true:=by kernel_rfl
theorem whole_number_cut.calls (k:Nat) (P0_0_:Nat→Prop) (A0_0:Option Addr) (c0_0:Nat) (l0_0:List Int) (a0_1:Bool) (A1_0:Option Addr) (c1_0:Nat) (l1_0:List Int) (a1_1:Bool) (r1:List Int) (r2:Bool) (r3:List Int) (r4:Bool) (w:World) (hs0_0:Kd.V (Kd.int .u64) 72 w w.heap.size (fun k_=>P0_0_ k_) (.slice A0_0 l0_0.length c0_0) l0_0) (hr1_0:Kd.C (Kd.int .u64) w A1_0 l1_0.length l1_0) (hc1_0:l1_0.length≤c1_0) (h:whole_number_cut.f k l0_0 a0_1 l1_0 a1_1=some (r1,r2,r3,r4)) :
  Calls Tryz.prog 98 #[.agg #[.slice A0_0 l0_0.length c0_0,.bool a0_1],.agg #[.slice A1_0 l1_0.length c1_0,.bool a1_1]] w fun e w'=>∃v0_ v2_:Value,e=.returned (.tuple #[.agg #[v0_,.bool r2],.agg #[v2_,.bool r4]])∧Kd.V (Kd.int .u64) 72 w' w.heap.size (fun k_=>(P0_0_ k_∨w.heap.size≤k_)) v0_ r1∧Kd.V (Kd.int .u64) 72 w' w.heap.size (fun k_=>(P0_0_ k_∨w.heap.size≤k_)) v2_ r3∧Below w.heap.size w w':=by
 have hu80:=Tryz.underlying80
 have K:=Kp.refl w
 replace K:=K.parV (Kd.V_mono (ok':=fun k=>P0_0_ k) hs0_0 (fun _ h=>h))
 clear hs0_0
 replace K:=K.parV (Kd.V_mono (ok':=fun k=>k<w.heap.size) (Kd.V_mk (e:=72) (base:=0) hc1_0 (Kd.C_F (Kd.heap_int .u64) hr1_0)) (fun _ h=>h))
 clear hr1_0 hc1_0
 try simp only[klv]at K
 rw[whole_number_cut.f]at h
 replace h:=bindA h
 obtain⟨⟨x9,x10⟩,A11,h⟩:=h
 dsimp only at h
 go_enter Tryz.func98,Tryz.ntmps98
 go_wp2_with (first|(refine gd 2 rfl ?_;refine kbk 2 #[.slice A0_0 l0_0.length c0_0,.bool a0_1] 80 K.u ?_;clear K;intro g1 W2 K)|(refine gd 3 rfl ?_;refine kbk 3 #[.slice A1_0 l1_0.length c1_0,.bool a1_1] 80 K.u ?_;clear K;intro g3 W4 K)|(refine gd 4 rfl ?_;refine kbk 4 #[.slice none 0 0,.bool false] 80 K.u ?_;clear K;intro g5 W6 K)|(refine gd 5 rfl ?_;refine kbk 5 #[.slice none 0 0,.bool false] 80 K.u ?_;clear K;intro g7 W8 K;obtain⟨ua0,ub0⟩:=K.cell2 0 rfl;obtain⟨ua1,ub1⟩:=K.cell2 1 rfl)|(refine gd 13 rfl ?_;clear ua0 ub0 ua1 ub1;refine kgl (some 13) rfl rfl Tryz.func168 #[.slice A0_0 l0_0.length c0_0,.slice A1_0 l1_0.length c1_0] rfl ?_;refine(whole_amount_quo.calls _ _ _ _ l0_0 _ _ l1_0 x9 x10 _ (K.V 0 rfl) (K.C 1 rfl) (K.le 1 rfl) A11.out).mono ?_;rintro e W16 ⟨v12,v13,rfl,ho14,ho15,hb⟩;refine⟨_,rfl,?_⟩;have K1:=K.u.add (fun k=>P0_0_ k) hb ho14 (fun _ h=>h);replace K:=K.u.more (fun k=>P0_0_ k) K1 ho15 (fun _ h=>h);clear K1;clear hb ho14 ho15;obtain⟨P17,c18,e19⟩:=K.slice 2 rfl;subst e19;obtain⟨P20,c21,e22⟩:=K.slice 3 rfl;subst e22))
 replace h:=bindA h
 obtain⟨⟨x23,z24⟩,A25,h⟩:=h
 dsimp only at h
 replace h:=bindA h
 obtain⟨⟨x26,z27⟩,A28,h⟩:=h
 dsimp only at h
 obtain⟨Bs,Vs,Os,hBs,hVs,hOs,K⟩:=K.abs
 have HS:Aside0 (∀l m o W,Kp w (Bs++l) m o W→W.cell? ⟨g1,0,none⟩=some (.slice A0_0 l0_0.length c0_0)∧W.cell? ⟨g1,1,none⟩=some (.bool a0_1)∧W.cell? ⟨g3,0,none⟩=some (.slice A1_0 l1_0.length c1_0)∧W.cell? ⟨g3,1,none⟩=some (.bool a1_1)):=⟨fun l m o W K=>by rw[hBs.out]at K;exact⟨K.cell 0 rfl 0 rfl,K.cell 0 rfl 1 rfl,K.cell 1 rfl 0 rfl,K.cell 1 rfl 1 rfl⟩⟩
 refine kpstart (n:=13) (ds:=[]) (S:=fun W=>W.cell? ⟨g1,0,none⟩=some (.slice A0_0 l0_0.length c0_0)∧W.cell? ⟨g1,1,none⟩=some (.bool a0_1)∧W.cell? ⟨g3,0,none⟩=some (.slice A1_0 l1_0.length c1_0)∧W.cell? ⟨g3,1,none⟩=some (.bool a1_1)) (bm_ 13 0) (by kernel_rfl) rfl rfl K (HS.out [] _ _) (fun W31 K hH=>?_)
 refine with_tabW whole_number_cut.tab2 whole_number_cut.bits2 (fun HT_ HW_=>?_)
 refine pu_ 0 16 ?_ (bm_ 13 1) rfl rfl (any_of HT_.out (by kernel_rfl)) (fun _ _ _ h=>h) (by rfl) ?_ ?_ ?_ ?_
 rotate_left
 ·intro w'
  go_simp
  with_reducible rfl
 rotate_left
 ·simp only[Act.put,kss,i64_w,i32_w]
  rfl
 refine pu_ 1 17 ?_ (bm_ 13 3) rfl rfl (any_of HT_.out (by kernel_rfl)) (fun _ _ _ h=>h) (by rfl) ?_ ?_ ?_ ?_
 rotate_left
 ·intro w'
  go_simp
  with_reducible rfl
 rotate_left
 ·simp only[Act.put,kss,i64_w,i32_w]
  rfl
 refine tk_ 2 18 ?_ (bm_ 13 7) rfl rfl (take_ofW HT_.out HW_.out (by kernel_rfl)) (fun _ _ _ h=>h) (by rfl) ?_ hH ?_ ?_ ?_
 rotate_left
 ·rintro w' ⟨s0,s1,s2,s3⟩
  go_simp
  with_reducible rfl
 rotate_left
 ·simp only[Act.put,kss,i64_w,i32_w]
  rfl
 refine pu_ 3 19 ?_ (bm_ 13 15) rfl rfl (any_of HT_.out (by kernel_rfl)) (fun _ _ _ h=>h) (by rfl) ?_ ?_ ?_ ?_
 rotate_left
 ·intro w'
  go_simp
  with_reducible rfl
 rotate_left
 ·simp only[Act.put,kss,i64_w,i32_w]
  rfl
 refine tk_ 4 20 ?_ (bm_ 13 31) rfl rfl (take_ofW HT_.out HW_.out (by kernel_rfl)) (fun _ _ _ h=>h) (by rfl) ?_ hH ?_ ?_ ?_
 rotate_left
 ·rintro w' ⟨s0,s1,s2,s3⟩
  go_simp
  with_reducible rfl
 rotate_left
 ·simp only[Act.put,kss,i64_w,i32_w]
  rfl
 refine pu_ 5 21 ?_ (bm_ 13 63) rfl rfl (any_of HT_.out (by kernel_rfl)) (fun _ _ _ h=>h) (by rfl) ?_ ?_ ?_ ?_
 rotate_left
 ·intro w'
  go_simp
  with_reducible rfl
 rotate_left
 ·simp only[Act.put,kss,i64_w,i32_w]
  rfl
 refine pu_ 7 23 ?_ (bm_ 13 191) rfl rfl (any_of HT_.out (by kernel_rfl)) (fun _ _ _ h=>h) (by rfl) ?_ ?_ ?_ ?_
 rotate_left
 ·intro w'
  go_simp
  with_reducible rfl
 rotate_left
 ·simp only[Act.put,kss,i64_w,i32_w]
  rfl
 refine pu_ 8 24 ?_ (bm_ 13 447) rfl rfl (any_of HT_.out (by kernel_rfl)) (fun _ _ _ h=>h) (by rfl) ?_ ?_ ?_ ?_
 rotate_left
 ·intro w'
  go_simp
  with_reducible rfl
 rotate_left
 ·simp only[Act.put,kss,i64_w,i32_w]
  rfl
 refine tk_ 9 25 ?_ (bm_ 13 959) rfl rfl (take_ofW HT_.out HW_.out (by kernel_rfl)) (fun _ _ _ h=>h) (by rfl) ?_ hH ?_ ?_ ?_
 rotate_left
 ·rintro w' ⟨s0,s1,s2,s3⟩
  go_simp
  with_reducible rfl
 rotate_left
 ·simp only[Act.put,kss,i64_w,i32_w]
  rfl
 refine one_ (i:=6) (N:=some 22) (bm_ 13 1023) rfl rfl (one_of HT_.out (by kernel_rfl)) (by decide) (fun Kc hK=>?_)
 refine kgo Tryz.func47 #[.slice P17 x9.length c18,.bool (a0_1 != a1_1)] (by rfl) rfl rfl ?_
 refine(whole_signed.calls _ _ _ x9 (a0_1 != a1_1) x23 z24 _ (K.V 2 (hv hVs rfl)) A25.out).mono ?_
 rintro e W' ⟨v29,rfl,ho32,hb⟩
 replace K:=K.addI 0 (fun k=>P0_0_ k) hb ho32 (fun _ h=>h)
 clear hb ho32
 refine⟨_,rfl,hK.out _ _ (HS.out _ _ _ _ K) fun hH=>?_⟩
 clear hK Kc
 refine norm_ (a':=?_) ?_ ?_
 rotate_left
 ·show Act.put _ (some 22) _=_
  simp only[Act.put,kss,i64_w,i32_w]
  rfl
 refine one_ (i:=10) (N:=some 26) (bm_ 13 2047) rfl rfl (one_of HT_.out (by kernel_rfl)) (by decide) (fun Kc hK=>?_)
 refine kgo Tryz.func47 #[.slice P20 x10.length c21,.bool a0_1] (by rfl) rfl rfl ?_
 refine(whole_signed.calls _ _ _ x10 a0_1 x26 z27 _ (K.V 3 (hv hVs rfl)) A28.out).mono ?_
 rintro e W' ⟨v30,rfl,ho33,hb⟩
 replace K:=K.addI 1 (fun k=>P0_0_ k) hb ho33 (fun _ h=>h)
 clear hb ho33
 refine⟨_,rfl,hK.out _ _ (HS.out _ _ _ _ K) fun hH=>?_⟩
 clear hK Kc
 refine norm_ (a':=?_) ?_ ?_
 rotate_left
 ·show Act.put _ (some 26) _=_
  simp only[Act.put,kss,i64_w,i32_w]
  rfl
 obtain⟨P34,c35,e36⟩:=K.slice 4 (hv hVs rfl)
 subst e36
 obtain⟨P37,c38,e39⟩:=K.slice 5 (hv hVs rfl)
 subst e39
 rw[hBs.out,hVs.out,hOs.out]at K
 simp only[kls,klv]at K
 clear hBs hVs hOs HS hH
 refine ko2 (i:=11) (bm_ 13 4095) 2 (.slice P34 x23.length c35) (.bool z24) K rfl rfl rfl (one_of HT_.out (by kernel_rfl)) (by decide) (by rfl) (fun W K=>⟨K.cell 0 rfl 0 rfl,K.cell 0 rfl 1 rfl,K.cell 1 rfl 0 rfl,K.cell 1 rfl 1 rfl⟩) ?_
 clear K
 intro W40 K
 simp only[kls,klv]at K
 refine ko2 (i:=12) (bm_ 13 8191) 3 (.slice P37 x26.length c38) (.bool z27) K rfl rfl rfl (one_of HT_.out (by kernel_rfl)) (by decide) (by rfl) (fun W K=>⟨K.cell 0 rfl 0 rfl,K.cell 0 rfl 1 rfl,K.cell 1 rfl 0 rfl,K.cell 1 rfl 1 rfl⟩) ?_
 clear K
 intro W41 K
 simp only[kls,klv]at K
 refine done_ (done_of HT_.out (by kernel_rfl)) ?_
 clear HT_ HW_
 simp only[Option.some.injEq,Prod.mk.injEq]at h
 obtain⟨rfl,rfl,rfl,rfl⟩:=h
 go_wp2
 refine bodyPost_ret (results_list (rs:=[.cell 4 80,.cell 5 80]) rfl (by simp) (.cell g5 80 #[.slice P34 x23.length c35,.bool z24] (0,0) _ rfl (K.u.heap 2 rfl) Tryz.underlying80 rfl (by kernel_rfl) (.cell g7 80 #[.slice P37 x26.length c38,.bool z27] (0,0) _ rfl (K.u.heap 3 rfl) Tryz.underlying80 rfl (by kernel_rfl) .nil))) rfl ?_
 exact⟨_,_,rfl,K.u.hand 4 rfl (fun k_ h=>h.elim (fun h=>.inl h) .inr),K.u.hand 5 rfl (fun k_ h=>h.elim (fun h=>.inl h) .inr),K.u.below⟩
end Go.Proofs.YtikencoikigllaaGreatDoor.PRy
namespace Go.Proofs.YtikencoikigllaaGreatDoor.PRy
open Go.RowKit Go.Proofs.YtikencoikigllaaGreatDoorW.PrintWords Go.Proofs.YtikencoikigllaaGreatDoorW.PrintLast Go.Proofs.YtikencoikigllaaGreatDoorW.PrintMore
open Go.Proofs.YtikencoikigllaaGreatDoor.Mine
attribute [local go_sem] max2_int min2_int max_two min_two max_three min_three max_four min_four
mutual
def whole_amount_plus.j0:Nat→List Int→List Int→Option (List Int)
 | 0,_,_=>none
 | k+1,x0,x1=>if 0≤(wrap64 ((x0.length:Int)+1)) then(if(wrap64 ((x0.length:Int)+1):Int).toNat≤35184372088832 then(whole_amount_plus.l0 k x0 x1 (([]:List Int)) 0 (x0.length:Int) 0) else(none)) else(none)
def whole_amount_plus.l0:Nat→List Int→List Int→List Int→Int→Int→Int→Option (List Int)
 | 0,_,_,_,_,_,_=>none
 | k+1,x0,x1,x5,x6,x23,x24=>if x24<x23 then(if x24<(x1.length:Int) then(if 0≤x24 then(if x24<(x0.length:Int) then((bits_Add64.f (rd x0 x24) (rd x1 x24) x6).bind fun bt237=>(if x5.length<17592186044416 then(whole_amount_plus.l0 k x0 x1 (x5++[bt237.1]) bt237.2 x23 (wrap64 (x24+1))) else(none))) else(none)) else(none)) else(if 0≤x24 then(if x24<(x0.length:Int) then((bits_Add64.f (rd x0 x24) 0 x6).bind fun bt243=>(if x5.length<17592186044416 then(whole_amount_plus.l0 k x0 x1 (x5++[bt243.1]) bt243.2 x23 (wrap64 (x24+1))) else(none))) else(none)) else(none))) else(if x5.length<17592186044416 then((whole_trimmed.f k (x5++[x6])).bind fun t251=>(some t251)) else(none))
end
def whole_amount_plus.f (k:Nat) (l0:List Int) (l1:List Int):Option (List Int):=if(l0.length:Int)<(l1.length:Int) then(whole_amount_plus.j0 k l1 l0) else(whole_amount_plus.j0 k l0 l1)
theorem whole_amount_plus.calls (k:Nat) (P0_:Nat→Prop) (A0:Option Addr) (c0:Nat) (l0:List Int) (P1_:Nat→Prop) (A1:Option Addr) (c1:Nat) (l1:List Int) (r:List Int) (w:World) (hs0:Kd.V (Kd.int .u64) 72 w w.heap.size (fun k_=>P0_ k_) (.slice A0 l0.length c0) l0) (hs1:Kd.V (Kd.int .u64) 72 w w.heap.size (fun k_=>P1_ k_) (.slice A1 l1.length c1) l1) (h:whole_amount_plus.f k l0 l1=some r) :
  Calls Tryz.prog 45 #[.slice A0 l0.length c0,.slice A1 l1.length c1] w fun e w'=>∃v0_:Value,e=.returned (v0_)∧Kd.V (Kd.int .u64) 72 w' w.heap.size (fun k_=>((P0_ k_∨P1_ k_)∨w.heap.size≤k_)) v0_ r∧Below w.heap.size w w':=by
 have HO0:=Aside0.mk (show Kd.V (Kd.int .u64) 72 w w.heap.size (fun k_=>((P0_ k_∨P1_ k_)∨w.heap.size≤k_)) (.slice A0 l0.length c0) l0 from Kd.V_mono hs0 (fun k_ hk=>.inl (.inl hk)))
 have HO1:=Aside0.mk (show Kd.V (Kd.int .u64) 72 w w.heap.size (fun k_=>((P0_ k_∨P1_ k_)∨w.heap.size≤k_)) (.slice A1 l1.length c1) l1 from Kd.V_mono hs1 (fun k_ hk=>.inl (.inr hk)))
 have HB:=Aside0.mk (Below.refl w.heap.size w)
 have H:(if(l0.length:Int)<(l1.length:Int) then(whole_amount_plus.j0 k l1 l0) else(whole_amount_plus.j0 k l0 l1))=some r:=h
 clear h
 have HC3:=Aside0.mk H
 clear H
 go_enter Tryz.func45,Tryz.ntmps45
 go_upto_if 15 with(fail)
 go_cut [0,1] (fun v0 v1 wc=>∃(kq:Nat) (x0_2:List Int) (x1_2:List Int),Aside0 (whole_amount_plus.j0 kq x0_2 x1_2=some r)∧Aside0 (kq≤k)∧Aside0 (Kd.V (Kd.int .u64) 72 wc w.heap.size (fun k_=>((P0_ k_∨P1_ k_)∨w.heap.size≤k_)) v0 x0_2)∧Aside0 (Kd.V (Kd.int .u64) 72 wc w.heap.size (fun k_=>((P0_ k_∨P1_ k_)∨w.heap.size≤k_)) v1 x1_2)∧Aside0 (Below w.heap.size w wc))
 case first=>
  have H:=HC3.out
  clear HC3
  by_cases c4:(l0.length:Int)<(l1.length:Int)
  ·rw[if_pos c4]at H
   have c4b0:decide ((l0.length:Int)<(l1.length:Int))=true:=decide_eq_true c4
   have c4b1:decide (l0.length<l1.length)=true:=decide_eq_true (Int.ofNat_lt.mp c4)
   clear c4
   (first|rw[c4b0]|rw[c4b1]|(simp only[i64_w,i32_w];rw[c4b0])|skip)
   have H':=Aside0.mk H
   clear H
   go_wp2
   go_meet
   case rel=>exact⟨_,(l1),(l0),H',⟨by first|omega|exact Nat.le_refl _⟩,⟨kvu HO1.out⟩,⟨kvu HO0.out⟩,⟨khu HB.out⟩⟩
  rw[if_neg c4]at H
  have c4b0:decide ((l0.length:Int)<(l1.length:Int))=false:=decide_eq_false c4
  have c4b1:decide (l0.length<l1.length)=false:=decide_eq_false (fun h=>c4 (Int.ofNat_lt.mpr h))
  clear c4
  (first|rw[c4b0]|rw[c4b1]|(simp only[i64_w,i32_w];rw[c4b0])|skip)
  have H':=Aside0.mk H
  clear H
  go_wp2
  go_meet
  case rel=>exact⟨_,(l0),(l1),H',⟨by first|omega|exact Nat.le_refl _⟩,⟨kvu HO0.out⟩,⟨kvu HO1.out⟩,⟨khu HB.out⟩⟩
 case rest =>
  clear HC3
  try clear c1
  try clear p2
  try clear c4
  try clear c4b0
  try clear c4b1
  obtain⟨kq,x0_2,x1_2,HA,HJ2,HO_0,HO_1,HB⟩:=hcut
  cases kq with
  | zero=>exact absurd HA.out (by simp[whole_amount_plus.j0])
  | succ kj2=>
   have H:=HA.out
   clear HA
   simp only[whole_amount_plus.j0]at H
   obtain⟨ji5,hji5⟩:∃j_:Int,(wrap64 ((x0_2.length:Int)+1))=j_:=⟨_,rfl⟩
   replace H:(if 0≤(ji5) then(if(ji5:Int).toNat≤35184372088832 then(whole_amount_plus.l0 kj2 x0_2 x1_2 (([]:List Int)) 0 (x0_2.length:Int) 0) else(none)) else(none))=some r:=by first|(rw[hji5]at H;exact H)|(simp only[hji5]at H ⊢;exact H)
   have hji5w:(IntKind.i64.wrap ((x0_2.length:Int)+1))=ji5:=(i64_w _).trans hji5
   by_cases c6:0≤(ji5)
   ·rw [if_pos c6]at H
    have c6b0:=eq_true c6
    have c6b1:decide (0≤(ji5))=true:=decide_eq_true c6
    clear c6
    by_cases c7:(ji5:Int).toNat≤35184372088832
    ·rw [if_pos c7]at H
     have c7b0:=eq_true c7
     have c7b1:decide ((ji5:Int).toNat≤35184372088832)=true:=decide_eq_true c7
     clear c7
     obtain⟨y232,hy232⟩:∃y_:List Int,y_=(([]:List Int)):=⟨_,rfl⟩
     replace H:(whole_amount_plus.l0 kj2 x0_2 x1_2 y232 0 (x0_2.length:Int) 0)=some r:=by first|(rw[hy232];with_reducible exact H)|(have H2_:=(Option.bind_some _ _).symm.trans H;rw[hy232];with_reducible exact H2_)|(have H2_:=(Option.bind_some _ _).symm.trans H;with_reducible exact H2_)|with_reducible exact H|(rw[hy232];exact H)|exact H
     have Ny232:=Aside0.mk hy232
     clear hy232
     have H':=Aside0.mk H
     clear H
     obtain⟨Ao8,co8,eo8⟩:=Kd.V_slice HO_0.out
     subst eo8
     go_wp2_with (first|(refine gd 21 rfl ?_;refine Kd.R_make0 (Kd.int .u64) _ 72 rfl (N:=21) rfl 23 _ _ rfl ji5 rfl rfl Tryz.underlying23 (.int .u64 0) 8 info72 rfl (by decide) (by omega) 0 (ok:=fun _=>True) (okp:=fun _=>True) rfl (fun _ hk=>hk) trivial (of_decide_eq_true ‹_›) (Nat.le_trans (Nat.mul_le_mul_right _ (of_decide_eq_true ‹_›:ji5.toNat≤35184372088832)) (by omega)) (Below.refl _ _) (Nat.le_refl _) ?_;intro v233 w9 ho10 hb hg_ hnew_;clear hg_ hnew_;(first|rw[←Ny232.out]at ho10|(simp only[Int.reduceToNat]at ho10;rw[←Ny232.out]at ho10));replace HO_0:=Aside0.mk (Kd.V_elder' (kvu HO_0.out) (Kd.R_base ho10) hb);replace HO_1:=Aside0.mk (Kd.V_elder' (kvu HO_1.out) (Kd.R_base ho10) hb);have HO234:=Aside0.mk (Kd.R_lower (Kd.R_newM (M:=fun k_=>(w.heap.size≤k_)) ho10 (below_size (khu HB.out)) (fun k_ h_=>h_)) (below_size (khu HB.out)));replace HB:=kbs HB hb;clear hb ho10))
     go_loopg [5,6,24] kj2 (fun kq v5 v6 v24 w'=>∃(x5_2:List Int) (x6_2:Int) (x24_2:Int),v6=.int .u64 x6_2∧v24=.int .i64 x24_2∧Aside0 (whole_amount_plus.l0 kq x0_2 x1_2 x5_2 x6_2 (x0_2.length:Int) x24_2=some r)∧Aside0 (kq≤kj2)∧Aside0 (Kd.V (Kd.int .u64) 72 w' w.heap.size (fun k_=>((P0_ k_∨P1_ k_)∨w.heap.size≤k_)∧some k_≠(v5:Value).ownBlock) (.slice Ao8 x0_2.length co8) x0_2)∧Aside0 (Kd.V (Kd.int .u64) 72 w' w.heap.size (fun k_=>((P0_ k_∨P1_ k_)∨w.heap.size≤k_)∧some k_≠(v5:Value).ownBlock) u1 x1_2)∧Aside0 (Kd.R (Kd.int .u64) 72 w' w.heap.size (fun k_=>(w.heap.size≤k_)) v5 x5_2)∧Aside0 (Below w.heap.size w w'))
     case atStart=>exact⟨(y232),(0),(0),(by first|rfl|(simp;done)|(simp[*];done)),(by first|rfl|(simp;done)|(simp[*];done)),H',⟨Nat.le_refl _⟩,⟨kvu HO_0.out⟩,⟨kvu HO_1.out⟩,⟨by(with_reducible repeat (first|apply Kd.R_alloc|apply Kd.R_drewN|apply Kd.R_drew));exact Kd.R_mono HO234.out (fun _ hk=>hk.1)⟩,⟨khu HB.out⟩⟩
     case round=>
      clear H'
      try clear c1
      try clear p2
      try clear c4
      try clear c4b0
      try clear c4b1
      try clear c6
      try clear c6b0
      try clear c6b1
      try clear p6
      try clear c7
      try clear c7b0
      try clear c7b1
      try clear p2
      obtain⟨x5_2,x6_2,x24_2,rfl,rfl,HA,HK2,HO_0,HO_1,HO_5,HB⟩:=hrel
      cases gk with
      | zero=>exact absurd HA.out (by simp[whole_amount_plus.l0])
      | succ k2=>
       have H:=HA.out
       clear HA
       simp only[whole_amount_plus.l0]at H
       by_cases c11:x24_2<(x0_2.length:Int)
       ·rw [if_pos c11]at H
        have c11b0:decide (x24_2<(x0_2.length:Int))=true:=decide_eq_true c11
        clear c11
        by_cases c12:x24_2<(x1_2.length:Int)
        ·rw [if_pos c12]at H
         have c12b0:decide (x24_2<(x1_2.length:Int))=true:=decide_eq_true c12
         clear c12
         by_cases c13:0≤x24_2
         ·rw[if_pos c13]at H
          have c13b0:decide (0≤x24_2)=true:=decide_eq_true c13
          clear c13
          by_cases c14:x24_2<(x0_2.length:Int)
          ·rw[if_pos c14]at H
           have c14b0:decide (x24_2<(x0_2.length:Int))=true:=decide_eq_true c14
           clear c14
           replace H:=Option.bind_eq_some_iff.mp H
           obtain⟨⟨t237,t238⟩,A150,H⟩:=H
           replace H:(if x5_2.length<17592186044416 then(whole_amount_plus.l0 k2 x0_2 x1_2 (x5_2++[t237]) t238 (x0_2.length:Int) (wrap64 (x24_2+1))) else(none))=some r:=H
           have A15:=Aside0.mk A150
           clear A150
           by_cases c16:x5_2.length<17592186044416
           ·rw[if_pos c16]at H
            have LMc16:=Aside0.mk c16
            clear c16
            obtain⟨y239,hy239⟩:∃y_:List Int,y_=(x5_2++[t237]):=⟨_,rfl⟩
            replace H:(whole_amount_plus.l0 k2 x0_2 x1_2 y239 t238 (x0_2.length:Int) (wrap64 (x24_2+1)))=some r:=by first|(rw[hy239];with_reducible exact H)|(have H2_:=(Option.bind_some _ _).symm.trans H;rw[hy239];with_reducible exact H2_)|(have H2_:=(Option.bind_some _ _).symm.trans H;with_reducible exact H2_)|with_reducible exact H|(rw[hy239];exact H)|exact H
            have Ny239:=Aside0.mk hy239
            clear hy239
            have H':=Aside0.mk H
            clear H
            obtain⟨Ao17,co17,eo17⟩:=Kd.V_slice HO_1.out
            subst eo17
            have p235:0≤(x24_2:Int):=of_decide_eq_true ‹_›
            have q235:x24_2<(x1_2.length:Int):=of_decide_eq_true ‹_›
            obtain⟨ad235,e235,hx235_0⟩:=Kd.at_int (Kd.V_reads' HO_1.out).2.2 x24_2 p235 q235
            cases e235
            replace p235:=eq_true p235
            replace q235:=eq_true q235
            have p236:0≤(x24_2:Int):=of_decide_eq_true ‹_›
            have q236:x24_2<(x0_2.length:Int):=of_decide_eq_true ‹_›
            obtain⟨ad236,e236,hx236_0⟩:=Kd.at_int (Kd.V_reads' HO_0.out).2.2 x24_2 p236 q236
            cases e236
            replace p236:=eq_true p236
            replace q236:=eq_true q236
            have hx18:=bits_Add64.run A15.out
            go_wp2_with (first|((with_reducible refine gate_builtin (b:=.append) (xs:=#[.tmp 45,.tmp 47]) rfl ?_);at_builtin;refine Kd.R_append (Kd.int .u64) (w0:=w) w.heap.size rfl (.tmp 45) (.tmp 47) 23 72 (.int .u64 0) 8 rfl Tryz.underlying23 info72 rfl (by decide) (by omega) u5 x5_2 t237 [.int .u64 t237] (fun k_=>(w.heap.size≤k_)) (fun _=>False) rfl rfl ?aP (fun _ hk=>hk.elim) ?aF ?aO ?aB ?aS ?aL ?_;(case aP=>exact rfl);(case aB=>exact(khu HB.out));(case aF=>exact(fun k_ hk=>(Nat.le_trans (below_size (khu HB.out)) hk)));(case aO=>exact(kru HO_5.out));(case aS=>exact(below_size (khu HB.out)));(case aL=>have:=LMc16.out;omega);intro v240 w19 ho hb hg hat;rw[←Ny239.out]at ho;replace HO_0:=Aside0.mk (Kd.V_afterv (ok:=(fun k_=>((P0_ k_∨P1_ k_)∨w.heap.size≤k_))) (kvu HO_0.out) hg hat);replace HO_1:=Aside0.mk (Kd.V_afterv (ok:=(fun k_=>((P0_ k_∨P1_ k_)∨w.heap.size≤k_))) (kvu HO_1.out) hg hat);replace HB:=Aside0.mk (hb);have HO241:=Aside0.mk (ho);clear HO_5;clear ho hb hg hat))
            go_roundg k2
            case measure=>have:=HJ2.out;have:=HK2.out;omega
            case rel=>exact⟨(y239),(t238),(wrap64 (x24_2+1)),(by first|rfl|(simp;done)|(simp[*];done)),(by first|rfl|(simp;done)|(simp[*];done)),H',⟨by have:=HJ2.out;have:=HK2.out;omega⟩,⟨kvu HO_0.out⟩,⟨kvu HO_1.out⟩,⟨kru HO241.out⟩,⟨khu HB.out⟩⟩
           rw[if_neg c16]at H
           exact absurd H (by simp)
          rw[if_neg c14]at H
          exact absurd H (by simp)
         rw[if_neg c13]at H
         exact absurd H (by simp)
        rw[if_neg c12]at H
        have c12b0:decide (x24_2<(x1_2.length:Int))=false:=decide_eq_false c12
        clear c12
        by_cases c20:0≤x24_2
        ·rw[if_pos c20]at H
         have c20b0:decide (0≤x24_2)=true:=decide_eq_true c20
         clear c20
         by_cases c21:x24_2<(x0_2.length:Int)
         ·rw[if_pos c21]at H
          have c21b0:decide (x24_2<(x0_2.length:Int))=true:=decide_eq_true c21
          clear c21
          replace H:=Option.bind_eq_some_iff.mp H
          obtain⟨⟨t243,t244⟩,A220,H⟩:=H
          replace H:(if x5_2.length<17592186044416 then(whole_amount_plus.l0 k2 x0_2 x1_2 (x5_2++[t243]) t244 (x0_2.length:Int) (wrap64 (x24_2+1))) else(none))=some r:=H
          have A22:=Aside0.mk A220
          clear A220
          by_cases c23:x5_2.length<17592186044416
          ·rw[if_pos c23]at H
           have LMc23:=Aside0.mk c23
           clear c23
           obtain⟨y245,hy245⟩:∃y_:List Int,y_=(x5_2++[t243]):=⟨_,rfl⟩
           replace H:(whole_amount_plus.l0 k2 x0_2 x1_2 y245 t244 (x0_2.length:Int) (wrap64 (x24_2+1)))=some r:=by first|(rw[hy245];with_reducible exact H)|(have H2_:=(Option.bind_some _ _).symm.trans H;rw[hy245];with_reducible exact H2_)|(have H2_:=(Option.bind_some _ _).symm.trans H;with_reducible exact H2_)|with_reducible exact H|(rw[hy245];exact H)|exact H
           have Ny245:=Aside0.mk hy245
           clear hy245
           have H':=Aside0.mk H
           clear H
           obtain⟨Ao24,co24,eo24⟩:=Kd.V_slice HO_1.out
           subst eo24
           have p242:0≤(x24_2:Int):=of_decide_eq_true ‹_›
           have q242:x24_2<(x0_2.length:Int):=of_decide_eq_true ‹_›
           obtain⟨ad242,e242,hx242_0⟩:=Kd.at_int (Kd.V_reads' HO_0.out).2.2 x24_2 p242 q242
           cases e242
           replace p242:=eq_true p242
           replace q242:=eq_true q242
           have hx25:=bits_Add64.run A22.out
           go_wp2_with (first|((with_reducible refine gate_builtin (b:=.append) (xs:=#[.tmp 45,.tmp 47]) rfl ?_);at_builtin;refine Kd.R_append (Kd.int .u64) (w0:=w) w.heap.size rfl (.tmp 45) (.tmp 47) 23 72 (.int .u64 0) 8 rfl Tryz.underlying23 info72 rfl (by decide) (by omega) u5 x5_2 t243 [.int .u64 t243] (fun k_=>(w.heap.size≤k_)) (fun _=>False) rfl rfl ?aP (fun _ hk=>hk.elim) ?aF ?aO ?aB ?aS ?aL ?_;(case aP=>exact rfl);(case aB=>exact(khu HB.out));(case aF=>exact(fun k_ hk=>(Nat.le_trans (below_size (khu HB.out)) hk)));(case aO=>exact(kru HO_5.out));(case aS=>exact(below_size (khu HB.out)));(case aL=>have:=LMc23.out;omega);intro v246 w26 ho hb hg hat;rw[←Ny245.out]at ho;replace HO_0:=Aside0.mk (Kd.V_afterv (ok:=(fun k_=>((P0_ k_∨P1_ k_)∨w.heap.size≤k_))) (kvu HO_0.out) hg hat);replace HO_1:=Aside0.mk (Kd.V_afterv (ok:=(fun k_=>((P0_ k_∨P1_ k_)∨w.heap.size≤k_))) (kvu HO_1.out) hg hat);replace HB:=Aside0.mk (hb);have HO247:=Aside0.mk (ho);clear HO_5;clear ho hb hg hat))
           go_roundg k2
           case measure=>have:=HJ2.out;have:=HK2.out;omega
           case rel=>exact⟨(y245),(t244),(wrap64 (x24_2+1)),(by first|rfl|(simp;done)|(simp[*];done)),(by first|rfl|(simp;done)|(simp[*];done)),H',⟨by have:=HJ2.out;have:=HK2.out;omega⟩,⟨kvu HO_0.out⟩,⟨kvu HO_1.out⟩,⟨kru HO247.out⟩,⟨khu HB.out⟩⟩
          rw[if_neg c23]at H
          exact absurd H (by simp)
         rw[if_neg c21]at H
         exact absurd H (by simp)
        rw[if_neg c20]at H
        exact absurd H (by simp)
       rw[if_neg c11]at H
       have c11b0:decide (x24_2<(x0_2.length:Int))=false:=decide_eq_false c11
       clear c11
       by_cases c27:x5_2.length<17592186044416
       ·rw[if_pos c27]at H
        have LMc27:=Aside0.mk c27
        clear c27
        obtain⟨y248,hy248⟩:∃y_:List Int,y_=(x5_2++[x6_2]):=⟨_,rfl⟩
        replace H:((whole_trimmed.f k2 y248).bind fun t251=>(some t251))=some r:=by first|(rw[hy248];with_reducible exact H)|(have H2_:=(Option.bind_some _ _).symm.trans H;rw[hy248];with_reducible exact H2_)|(have H2_:=(Option.bind_some _ _).symm.trans H;with_reducible exact H2_)|with_reducible exact H|(rw[hy248];exact H)|exact H
        have Ny248:=Aside0.mk hy248
        clear hy248
        replace H:=Option.bind_eq_some_iff.mp H
        obtain⟨t251,A280,H⟩:=H
        replace H:(some t251)=some r:=H
        have A28:=Aside0.mk A280
        clear A280
        obtain rfl:=Option.some.inj H
        go_wp2_with (first|((with_reducible refine gate_builtin (b:=.append) (xs:=#[.tmp 51,.tmp 53]) rfl ?_);at_builtin;refine Kd.R_append (Kd.int .u64) (w0:=w) w.heap.size rfl (.tmp 51) (.tmp 53) 23 72 (.int .u64 0) 8 rfl Tryz.underlying23 info72 rfl (by decide) (by omega) u5 x5_2 x6_2 [.int .u64 x6_2] (fun k_=>(w.heap.size≤k_)) (fun _=>False) rfl rfl ?aP (fun _ hk=>hk.elim) ?aF ?aO ?aB ?aS ?aL ?_;(case aP=>exact rfl);(case aB=>exact(khu HB.out));(case aF=>exact(fun k_ hk=>(Nat.le_trans (below_size (khu HB.out)) hk)));(case aO=>exact(kru HO_5.out));(case aS=>exact(below_size (khu HB.out)));(case aL=>have:=LMc27.out;omega);intro v249 w29 ho hb hg hat;rw[←Ny248.out]at ho;replace HO_0:=Aside0.mk (Kd.V_afterv (ok:=(fun k_=>((P0_ k_∨P1_ k_)∨w.heap.size≤k_))) (kvu HO_0.out) hg hat);replace HO_1:=Aside0.mk (Kd.V_afterv (ok:=(fun k_=>((P0_ k_∨P1_ k_)∨w.heap.size≤k_))) (kvu HO_1.out) hg hat);replace HB:=Aside0.mk (hb);have HO250:=Aside0.mk (ho);clear HO_5;clear ho hb hg hat;obtain⟨Ao30,co30,eo30⟩:=Kd.R_slice HO250.out;subst eo30)|((with_reducible refine gate_callee (f:=46) rfl ?_);refine kgl (some 55) rfl rfl Tryz.func46 #[.slice Ao30 y248.length co30] rfl ?_;(with_reducible refine(whole_trimmed.calls k2 (fun k_=>some k_=(.slice Ao30 y248.length co30:Value).ownBlock) _ _ y248 t251 _ ?side1 A28.out).mono ?_);(case side1=>exact Kd.R_V (Kd.R_tight rfl (HO250.out)));rintro e w31 ⟨v252,rfl,ho0,hb⟩;refine⟨_,rfl,?_⟩;replace HO_0:=kvb HO_0 hb;replace HO_1:=kvb HO_1 hb;have HO253:=Aside0.mk (Kd.V_lower (Kd.V_mono (ok':=fun k_=>((P0_ k_∨P1_ k_)∨w.heap.size≤k_)) ho0 (fun k_ hk_=>Or.elim hk_ (fun hs_=>(.inr (((HO250.out).1 k_ hs_.symm)))) (fun hn_=>(.inr (Nat.le_trans (below_size (khu HB.out)) hn_))))) (below_size (khu HB.out)));replace HO250:=krb HO250 hb;replace HB:=kbs HB hb;(try clear hb);(try clear hb2);(try clear hk);(try clear hi);(try clear ho0)))
        go_ret
        exact⟨_,by first|rfl|(simp[errW_none,errW_some]<;>rfl)|(simp only[←hji5];first|rfl|(simp[errW_none,errW_some]<;>rfl))|(simp[*,errW_none,errW_some]<;>rfl),kvu HO253.out,khu HB.out⟩
       rw[if_neg c27]at H
       exact absurd H (by simp)
    rw[if_neg c7]at H
    exact absurd H (by simp)
   rw[if_neg c6]at H
   exact absurd H (by simp)
end Go.Proofs.YtikencoikigllaaGreatDoor.PRy
namespace Go.Proofs.YtikencoikigllaaGreatDoor.PRy
open Go.RowKit Go.Proofs.YtikencoikigllaaGreatDoorW.PrintWords Go.Proofs.YtikencoikigllaaGreatDoorW.PrintLast Go.Proofs.YtikencoikigllaaGreatDoorW.PrintMore
open Go.Proofs.YtikencoikigllaaGreatDoor.Mine
attribute [local go_sem] max2_int min2_int max_two min_two max_three min_three max_four min_four
def whole_amount_minus.l0:Nat→List Int→List Int→List Int→Int→Int→Int→Option (List Int)
 | 0,_,_,_,_,_,_=>none
 | k+1,x0,x1,x5,x6,x15,x16=>if x16<x15 then(if x16<(x1.length:Int) then(if 0≤x16 then(if x16<(x0.length:Int) then((bits_Sub64.f (rd x0 x16) (rd x1 x16) x6).bind fun bt259=>(if x5.length<17592186044416 then(whole_amount_minus.l0 k x0 x1 (x5++[bt259.1]) bt259.2 x15 (wrap64 (x16+1))) else(none))) else(none)) else(none)) else(if 0≤x16 then(if x16<(x0.length:Int) then((bits_Sub64.f (rd x0 x16) 0 x6).bind fun bt265=>(if x5.length<17592186044416 then(whole_amount_minus.l0 k x0 x1 (x5++[bt265.1]) bt265.2 x15 (wrap64 (x16+1))) else(none))) else(none)) else(none))) else((whole_trimmed.f k x5).bind fun t270=>(some t270))
def whole_amount_minus.f (k:Nat) (l0:List Int) (l1:List Int):Option (List Int):=if 0≤(l0.length:Int) then(if((l0.length:Int):Int).toNat≤35184372088832 then(whole_amount_minus.l0 k l0 l1 (([]:List Int)) 0 (l0.length:Int) 0) else(none)) else(none)
theorem whole_amount_minus.calls (k:Nat) (A0:Option Addr) (c0:Nat) (l0:List Int) (A1:Option Addr) (c1:Nat) (l1:List Int) (r:List Int) (w:World) (hr0:Kd.C (Kd.int .u64) w A0 l0.length l0) (hc0:l0.length≤c0) (hr1:Kd.C (Kd.int .u64) w A1 l1.length l1) (hc1:l1.length≤c1) (h:whole_amount_minus.f k l0 l1=some r) :
  Calls Tryz.prog 169 #[.slice A0 l0.length c0,.slice A1 l1.length c1] w fun e w'=>∃v0_:Value,e=.returned (v0_)∧Kd.V (Kd.int .u64) 72 w' w.heap.size (fun k_=>(w.heap.size≤k_)) v0_ r∧Below w.heap.size w w':=by
 have HR0:=Aside0.mk hr0
 have HC0:=Aside0.mk hc0
 clear hr0 hc0
 have HR1:=Aside0.mk hr1
 have HC1:=Aside0.mk hc1
 clear hr1 hc1
 have HB:=Aside0.mk (Below.refl w.heap.size w)
 have H:(if 0≤(l0.length:Int) then(if((l0.length:Int):Int).toNat≤35184372088832 then(whole_amount_minus.l0 k l0 l1 (([]:List Int)) 0 (l0.length:Int) 0) else(none)) else(none))=some r:=h
 clear h
 by_cases c3:0≤(l0.length:Int)
 ·rw [if_pos c3]at H
  have c3b0:=eq_true c3
  have c3b1:decide (0≤(l0.length:Int))=true:=decide_eq_true c3
  clear c3
  by_cases c4:((l0.length:Int):Int).toNat≤35184372088832
  ·rw [if_pos c4]at H
   have c4b0:=eq_true c4
   have c4b1:decide (((l0.length:Int):Int).toNat≤35184372088832)=true:=decide_eq_true c4
   clear c4
   obtain⟨y254,hy254⟩:∃y_:List Int,y_=(([]:List Int)):=⟨_,rfl⟩
   replace H:(whole_amount_minus.l0 k l0 l1 y254 0 (l0.length:Int) 0)=some r:=by first|(rw[hy254];with_reducible exact H)|(have H2_:=(Option.bind_some _ _).symm.trans H;rw[hy254];with_reducible exact H2_)|(have H2_:=(Option.bind_some _ _).symm.trans H;with_reducible exact H2_)|with_reducible exact H|(rw[hy254];exact H)|exact H
   have Ny254:=Aside0.mk hy254
   clear hy254
   have H':=Aside0.mk H
   clear H
   go_enter Tryz.func169,Tryz.ntmps169
   go_wp2_with (first|(refine gd 13 rfl ?_;refine Kd.R_make0 (Kd.int .u64) _ 72 rfl (N:=13) rfl 23 _ _ rfl (l0.length:Int) rfl rfl Tryz.underlying23 (.int .u64 0) 8 info72 rfl (by decide) (by omega) 0 (ok:=fun _=>True) (okp:=fun _=>True) rfl (fun _ hk=>hk) trivial (of_decide_eq_true ‹_›) (Nat.le_trans (Nat.mul_le_mul_right _ (of_decide_eq_true ‹_›:(l0.length:Int).toNat≤35184372088832)) (by omega)) (Below.refl _ _) (Nat.le_refl _) ?_;intro v255 w5 ho6 hb hg_ hnew_;clear hg_ hnew_;(first|rw[←Ny254.out]at ho6|(simp only[Int.reduceToNat]at ho6;rw[←Ny254.out]at ho6));have HO256:=Aside0.mk (Kd.R_lower (Kd.R_newM (M:=fun k_=>(w.heap.size≤k_)) ho6 (below_size (khu HB.out)) (fun k_ h_=>h_)) (below_size (khu HB.out)));replace HB:=kbs HB hb;clear hb ho6))
   go_loopg [5,6,16] k (fun kq v5 v6 v16 w'=>∃(x5_1:List Int) (x6_1:Int) (x16_1:Int),v6=.int .u64 x6_1∧v16=.int .i64 x16_1∧Aside0 (whole_amount_minus.l0 kq l0 l1 x5_1 x6_1 (l0.length:Int) x16_1=some r)∧Aside0 (kq≤k)∧Aside0 (Kd.R (Kd.int .u64) 72 w' w.heap.size (fun k_=>(w.heap.size≤k_)) v5 x5_1)∧Aside0 (Below w.heap.size w w'))
   case atStart=>exact⟨(y254),(0),(0),(by first|rfl|(simp;done)|(simp[*];done)),(by first|rfl|(simp;done)|(simp[*];done)),H',⟨Nat.le_refl _⟩,⟨by(with_reducible repeat (first|apply Kd.R_alloc|apply Kd.R_drewN|apply Kd.R_drew));exact Kd.R_mono HO256.out (fun _ hk=>hk.1)⟩,⟨khu HB.out⟩⟩
   case round=>
    clear H'
    try clear c1
    try clear p2
    try clear c3
    try clear c3b0
    try clear c3b1
    try clear c4
    try clear c4b0
    try clear c4b1
    obtain⟨x5_1,x6_1,x16_1,rfl,rfl,HA,HK1,HO_5,HB⟩:=hrel
    cases gk with
    | zero=>exact absurd HA.out (by simp[whole_amount_minus.l0])
    | succ k1=>
     have H:=HA.out
     clear HA
     simp only[whole_amount_minus.l0]at H
     by_cases c7:x16_1<(l0.length:Int)
     ·rw [if_pos c7]at H
      have c7b0:decide (x16_1<(l0.length:Int))=true:=decide_eq_true c7
      clear c7
      by_cases c8:x16_1<(l1.length:Int)
      ·rw [if_pos c8]at H
       have c8b0:decide (x16_1<(l1.length:Int))=true:=decide_eq_true c8
       clear c8
       by_cases c9:0≤x16_1
       ·rw[if_pos c9]at H
        have c9b0:decide (0≤x16_1)=true:=decide_eq_true c9
        clear c9
        by_cases c10:x16_1<(l0.length:Int)
        ·rw[if_pos c10]at H
         have c10b0:decide (x16_1<(l0.length:Int))=true:=decide_eq_true c10
         clear c10
         replace H:=Option.bind_eq_some_iff.mp H
         obtain⟨⟨t259,t260⟩,A110,H⟩:=H
         replace H:(if x5_1.length<17592186044416 then(whole_amount_minus.l0 k1 l0 l1 (x5_1++[t259]) t260 (l0.length:Int) (wrap64 (x16_1+1))) else(none))=some r:=H
         have A11:=Aside0.mk A110
         clear A110
         by_cases c12:x5_1.length<17592186044416
         ·rw[if_pos c12]at H
          have LMc12:=Aside0.mk c12
          clear c12
          obtain⟨y261,hy261⟩:∃y_:List Int,y_=(x5_1++[t259]):=⟨_,rfl⟩
          replace H:(whole_amount_minus.l0 k1 l0 l1 y261 t260 (l0.length:Int) (wrap64 (x16_1+1)))=some r:=by first|(rw[hy261];with_reducible exact H)|(have H2_:=(Option.bind_some _ _).symm.trans H;rw[hy261];with_reducible exact H2_)|(have H2_:=(Option.bind_some _ _).symm.trans H;with_reducible exact H2_)|with_reducible exact H|(rw[hy261];exact H)|exact H
          have Ny261:=Aside0.mk hy261
          clear hy261
          have H':=Aside0.mk H
          clear H
          have p257:0≤(x16_1:Int):=of_decide_eq_true ‹_›
          have q257:x16_1<(l1.length:Int):=of_decide_eq_true ‹_›
          obtain⟨ad257,e257,hx257_0⟩:=Kd.at_int HR1.out x16_1 p257 q257
          cases e257
          replace hx257_0:=(HB.out.cell (World.block_lt_of_cell? w _ hx257_0)).trans hx257_0
          replace p257:=eq_true p257
          replace q257:=eq_true q257
          have p258:0≤(x16_1:Int):=of_decide_eq_true ‹_›
          have q258:x16_1<(l0.length:Int):=of_decide_eq_true ‹_›
          obtain⟨ad258,e258,hx258_0⟩:=Kd.at_int HR0.out x16_1 p258 q258
          cases e258
          replace hx258_0:=(HB.out.cell (World.block_lt_of_cell? w _ hx258_0)).trans hx258_0
          replace p258:=eq_true p258
          replace q258:=eq_true q258
          have hx13:=bits_Sub64.run A11.out
          go_wp2_with (first|((with_reducible refine gate_builtin (b:=.append) (xs:=#[.tmp 37,.tmp 39]) rfl ?_);at_builtin;refine Kd.R_append (Kd.int .u64) (w0:=w) w.heap.size rfl (.tmp 37) (.tmp 39) 23 72 (.int .u64 0) 8 rfl Tryz.underlying23 info72 rfl (by decide) (by omega) u5 x5_1 t259 [.int .u64 t259] (fun k_=>(w.heap.size≤k_)) (fun _=>False) rfl rfl ?aP (fun _ hk=>hk.elim) ?aF ?aO ?aB ?aS ?aL ?_;(case aP=>exact rfl);(case aB=>exact(khu HB.out));(case aF=>exact(fun k_ hk=>(Nat.le_trans (below_size (khu HB.out)) hk)));(case aO=>exact(kru HO_5.out));(case aS=>exact(below_size (khu HB.out)));(case aL=>have:=LMc12.out;omega);intro v262 w14 ho hb hg hat;rw[←Ny261.out]at ho;replace HB:=Aside0.mk (hb);have HO263:=Aside0.mk (ho);clear HO_5;clear ho hb hg hat))
          go_roundg k1
          case measure=>have:=HK1.out;omega
          case rel=>exact⟨(y261),(t260),(wrap64 (x16_1+1)),(by first|rfl|(simp;done)|(simp[*];done)),(by first|rfl|(simp;done)|(simp[*];done)),H',⟨by have:=HK1.out;omega⟩,⟨kru HO263.out⟩,⟨khu HB.out⟩⟩
         rw[if_neg c12]at H
         exact absurd H (by simp)
        rw[if_neg c10]at H
        exact absurd H (by simp)
       rw[if_neg c9]at H
       exact absurd H (by simp)
      rw[if_neg c8]at H
      have c8b0:decide (x16_1<(l1.length:Int))=false:=decide_eq_false c8
      clear c8
      by_cases c15:0≤x16_1
      ·rw[if_pos c15]at H
       have c15b0:decide (0≤x16_1)=true:=decide_eq_true c15
       clear c15
       by_cases c16:x16_1<(l0.length:Int)
       ·rw[if_pos c16]at H
        have c16b0:decide (x16_1<(l0.length:Int))=true:=decide_eq_true c16
        clear c16
        replace H:=Option.bind_eq_some_iff.mp H
        obtain⟨⟨t265,t266⟩,A170,H⟩:=H
        replace H:(if x5_1.length<17592186044416 then(whole_amount_minus.l0 k1 l0 l1 (x5_1++[t265]) t266 (l0.length:Int) (wrap64 (x16_1+1))) else(none))=some r:=H
        have A17:=Aside0.mk A170
        clear A170
        by_cases c18:x5_1.length<17592186044416
        ·rw[if_pos c18]at H
         have LMc18:=Aside0.mk c18
         clear c18
         obtain⟨y267,hy267⟩:∃y_:List Int,y_=(x5_1++[t265]):=⟨_,rfl⟩
         replace H:(whole_amount_minus.l0 k1 l0 l1 y267 t266 (l0.length:Int) (wrap64 (x16_1+1)))=some r:=by first|(rw[hy267];with_reducible exact H)|(have H2_:=(Option.bind_some _ _).symm.trans H;rw[hy267];with_reducible exact H2_)|(have H2_:=(Option.bind_some _ _).symm.trans H;with_reducible exact H2_)|with_reducible exact H|(rw[hy267];exact H)|exact H
         have Ny267:=Aside0.mk hy267
         clear hy267
         have H':=Aside0.mk H
         clear H
         have p264:0≤(x16_1:Int):=of_decide_eq_true ‹_›
         have q264:x16_1<(l0.length:Int):=of_decide_eq_true ‹_›
         obtain⟨ad264,e264,hx264_0⟩:=Kd.at_int HR0.out x16_1 p264 q264
         cases e264
         replace hx264_0:=(HB.out.cell (World.block_lt_of_cell? w _ hx264_0)).trans hx264_0
         replace p264:=eq_true p264
         replace q264:=eq_true q264
         have hx19:=bits_Sub64.run A17.out
         go_wp2_with (first|((with_reducible refine gate_builtin (b:=.append) (xs:=#[.tmp 37,.tmp 39]) rfl ?_);at_builtin;refine Kd.R_append (Kd.int .u64) (w0:=w) w.heap.size rfl (.tmp 37) (.tmp 39) 23 72 (.int .u64 0) 8 rfl Tryz.underlying23 info72 rfl (by decide) (by omega) u5 x5_1 t265 [.int .u64 t265] (fun k_=>(w.heap.size≤k_)) (fun _=>False) rfl rfl ?aP (fun _ hk=>hk.elim) ?aF ?aO ?aB ?aS ?aL ?_;(case aP=>exact rfl);(case aB=>exact(khu HB.out));(case aF=>exact(fun k_ hk=>(Nat.le_trans (below_size (khu HB.out)) hk)));(case aO=>exact(kru HO_5.out));(case aS=>exact(below_size (khu HB.out)));(case aL=>have:=LMc18.out;omega);intro v268 w20 ho hb hg hat;rw[←Ny267.out]at ho;replace HB:=Aside0.mk (hb);have HO269:=Aside0.mk (ho);clear HO_5;clear ho hb hg hat))
         go_roundg k1
         case measure=>have:=HK1.out;omega
         case rel=>exact⟨(y267),(t266),(wrap64 (x16_1+1)),(by first|rfl|(simp;done)|(simp[*];done)),(by first|rfl|(simp;done)|(simp[*];done)),H',⟨by have:=HK1.out;omega⟩,⟨kru HO269.out⟩,⟨khu HB.out⟩⟩
        rw[if_neg c18]at H
        exact absurd H (by simp)
       rw[if_neg c16]at H
       exact absurd H (by simp)
      rw[if_neg c15]at H
      exact absurd H (by simp)
     rw[if_neg c7]at H
     have c7b0:decide (x16_1<(l0.length:Int))=false:=decide_eq_false c7
     clear c7
     replace H:=Option.bind_eq_some_iff.mp H
     obtain⟨t270,A210,H⟩:=H
     replace H:(some t270)=some r:=H
     have A21:=Aside0.mk A210
     clear A210
     obtain rfl:=Option.some.inj H
     obtain⟨Ao22,co22,eo22⟩:=Kd.R_slice HO_5.out
     subst eo22
     go_wp2_with (first|((with_reducible refine gate_callee (f:=46) rfl ?_);refine kgl (some 44) rfl rfl Tryz.func46 #[.slice Ao22 x5_1.length co22] rfl ?_;(with_reducible refine(whole_trimmed.calls k1 (fun k_=>some k_=(.slice Ao22 x5_1.length co22:Value).ownBlock) _ _ x5_1 t270 _ ?side1 A21.out).mono ?_);(case side1=>exact Kd.R_V (Kd.R_tight rfl (HO_5.out)));rintro e w23 ⟨v271,rfl,ho0,hb⟩;refine⟨_,rfl,?_⟩;have HO272:=Aside0.mk (Kd.V_lower (Kd.V_mono (ok':=fun k_=>(w.heap.size≤k_)) ho0 (fun k_ hk_=>Or.elim hk_ (fun hs_=>((HO_5.out).1 k_ hs_.symm)) (fun hn_=>(Nat.le_trans (below_size (khu HB.out)) hn_)))) (below_size (khu HB.out)));replace HO_5:=krb HO_5 hb;replace HB:=kbs HB hb;(try clear hb);(try clear hb2);(try clear hk);(try clear hi);(try clear ho0)))
     go_ret
     exact⟨_,by first|rfl|(simp[*,errW_none,errW_some]<;>rfl),kvu HO272.out,khu HB.out⟩
  rw[if_neg c4]at H
  exact absurd H (by simp)
 rw[if_neg c3]at H
 exact absurd H (by simp)
def whole_number_plus.f (k:Nat) (l0_0:List Int) (a0_1:Bool) (l1_0:List Int) (a1_1:Bool):Option (List Int×Bool):=if(a0_1==a1_1)=true then((whole_amount_plus.f k l0_0 l1_0).bind fun t276=>((whole_signed.f t276 a0_1).bind fun bt279=>(some (bt279.1,bt279.2)))) else((whole_amount_cmp.f k l0_0 l1_0).bind fun t283=>(if t283≥0 then((whole_amount_minus.f k l0_0 l1_0).bind fun t284=>((whole_signed.f t284 a0_1).bind fun bt287=>(some (bt287.1,bt287.2)))) else((whole_amount_minus.f k l1_0 l0_0).bind fun t291=>((whole_signed.f t291 a1_1).bind fun bt294=>(some (bt294.1,bt294.2))))))
def whole_number_plus.T2:Bool×List (List Nat×List Nat):=(true,[([],[]),([0],[0]),([],[]),([2],[2]),([1,3],[1,3]),([],[]),([5],[5]),([4,6,4],[4,6]),([7,7,0,1,2,3,4,5,6,7],[7])])
def whole_number_plus.B2:List Nat:=[0,1,0,4,15,0,32,127,255]
theorem whole_number_plus.tab2:rtab .any (opsOf Tryz.f99 2)=whole_number_plus.T2:=by kernel_rfl
theorem whole_number_plus.bits2:waitsOk whole_number_plus.T2.2 whole_number_plus.B2=true:=by kernel_rfl
def whole_number_plus.T4:Bool×List (List Nat×List Nat):=(true,[([],[]),([0],[0]),([],[]),([2],[2]),([1,3],[1,3]),([],[]),([5],[5]),([4,6,4],[4,6]),([7,7,0,1,2,3,4,5,6,7],[7])])
def whole_number_plus.B4:List Nat:=[0,1,0,4,15,0,32,127,255]
theorem whole_number_plus.tab4:rtab .any (opsOf Tryz.f99 4)=whole_number_plus.T4:=by kernel_rfl
theorem whole_number_plus.bits4:waitsOk whole_number_plus.T4.2 whole_number_plus.B4=true:=by kernel_rfl
def whole_number_plus.T5:Bool×List (List Nat×List Nat):=(true,[([],[]),([0],[0]),([],[]),([2],[2]),([1,3],[1,3]),([],[]),([5],[5]),([4,6,4],[4,6]),([7,7,0,1,2,3,4,5,6,7],[7])])
def whole_number_plus.B5:List Nat:=[0,1,0,4,15,0,32,127,255]
theorem whole_number_plus.tab5:rtab .any (opsOf Tryz.f99 5)=whole_number_plus.T5:=by kernel_rfl
theorem whole_number_plus.bits5:waitsOk whole_number_plus.T5.2 whole_number_plus.B5=true:=by kernel_rfl
theorem whole_number_plus.calls (k:Nat) (P0_0_:Nat→Prop) (A0_0:Option Addr) (c0_0:Nat) (l0_0:List Int) (a0_1:Bool) (P1_0_:Nat→Prop) (A1_0:Option Addr) (c1_0:Nat) (l1_0:List Int) (a1_1:Bool) (r1:List Int) (r2:Bool) (w:World) (hs0_0:Kd.V (Kd.int .u64) 72 w w.heap.size (fun k_=>P0_0_ k_) (.slice A0_0 l0_0.length c0_0) l0_0) (hs1_0:Kd.V (Kd.int .u64) 72 w w.heap.size (fun k_=>P1_0_ k_) (.slice A1_0 l1_0.length c1_0) l1_0) (h:whole_number_plus.f k l0_0 a0_1 l1_0 a1_1=some (r1,r2)) :
  Calls Tryz.prog 99 #[.agg #[.slice A0_0 l0_0.length c0_0,.bool a0_1],.agg #[.slice A1_0 l1_0.length c1_0,.bool a1_1]] w fun e w'=>∃v0_:Value,e=.returned (.agg #[v0_,.bool r2])∧Kd.V (Kd.int .u64) 72 w' w.heap.size (fun k_=>((P0_0_ k_∨P1_0_ k_)∨w.heap.size≤k_)) v0_ r1∧Below w.heap.size w w':=by
 have hu80:=Tryz.underlying80
 have K:=Kp.refl w
 replace K:=K.parV (Kd.V_mono (ok':=fun k=>P0_0_ k) hs0_0 (fun _ h=>h))
 clear hs0_0
 replace K:=K.parV (Kd.V_mono (ok':=fun k=>P1_0_ k) hs1_0 (fun _ h=>h))
 clear hs1_0
 try simp only[klv]at K
 rw[whole_number_plus.f]at h
 by_cases c_0:(a0_1==a1_1)=true
 ·rw[if_pos c_0]at h
  have c_0b:decide (a0_1=a1_1)=true:=by simpa using c_0
  go_enter Tryz.func99,Tryz.ntmps99
  go_wp2_with (first|(refine gd 2 rfl ?_;refine kbk 2 #[.slice A0_0 l0_0.length c0_0,.bool a0_1] 80 K.u ?_;clear K;intro g1 W2 K)|(refine gd 3 rfl ?_;refine kbk 3 #[.slice A1_0 l1_0.length c1_0,.bool a1_1] 80 K.u ?_;clear K;intro g3 W4 K)|(refine gd 4 rfl ?_;refine kbk 4 #[.slice none 0 0,.bool false] 80 K.u ?_;clear K;intro g5 W6 K;obtain⟨ua0,ub0⟩:=K.cell2 0 rfl;obtain⟨ua1,ub1⟩:=K.cell2 1 rfl))
  clear ua0 ub0 ua1 ub1
  replace h:=bindA h
  obtain⟨x7,A8,h⟩:=h
  replace h:=bindA h
  obtain⟨⟨x9,z10⟩,A11,h⟩:=h
  dsimp only at h
  obtain⟨Bs,Vs,Os,hBs,hVs,hOs,K⟩:=K.abs
  have HS:Aside0 (∀l m o W,Kp w (Bs++l) m o W→W.cell? ⟨g1,0,none⟩=some (.slice A0_0 l0_0.length c0_0)∧W.cell? ⟨g1,1,none⟩=some (.bool a0_1)∧W.cell? ⟨g3,0,none⟩=some (.slice A1_0 l1_0.length c1_0)∧W.cell? ⟨g3,1,none⟩=some (.bool a1_1)):=⟨fun l m o W K=>by rw[hBs.out]at K;exact⟨K.cell 0 rfl 0 rfl,K.cell 0 rfl 1 rfl,K.cell 1 rfl 0 rfl,K.cell 1 rfl 1 rfl⟩⟩
  refine kpstart (n:=9) (ds:=[]) (S:=fun W=>W.cell? ⟨g1,0,none⟩=some (.slice A0_0 l0_0.length c0_0)∧W.cell? ⟨g1,1,none⟩=some (.bool a0_1)∧W.cell? ⟨g3,0,none⟩=some (.slice A1_0 l1_0.length c1_0)∧W.cell? ⟨g3,1,none⟩=some (.bool a1_1)) (bm_ 9 0) (by kernel_rfl) rfl rfl K (HS.out [] _ _) (fun W14 K hH=>?_)
  refine with_tabW whole_number_plus.tab2 whole_number_plus.bits2 (fun HT_ HW_=>?_)
  refine pu_ 0 10 ?_ (bm_ 9 1) rfl rfl (any_of HT_.out (by kernel_rfl)) (fun _ _ _ h=>h) (by rfl) ?_ ?_ ?_ ?_
  rotate_left
  ·intro w'
   go_simp
   with_reducible rfl
  rotate_left
  ·simp only[Act.put,kss,i64_w,i32_w]
   rfl
  refine tk_ 1 11 ?_ (bm_ 9 3) rfl rfl (take_ofW HT_.out HW_.out (by kernel_rfl)) (fun _ _ _ h=>h) (by rfl) ?_ hH ?_ ?_ ?_
  rotate_left
  ·rintro w' ⟨s0,s1,s2,s3⟩
   go_simp
   with_reducible rfl
  rotate_left
  ·simp only[Act.put,kss,i64_w,i32_w]
   rfl
  refine pu_ 2 12 ?_ (bm_ 9 7) rfl rfl (any_of HT_.out (by kernel_rfl)) (fun _ _ _ h=>h) (by rfl) ?_ ?_ ?_ ?_
  rotate_left
  ·intro w'
   go_simp
   with_reducible rfl
  rotate_left
  ·simp only[Act.put,kss,i64_w,i32_w]
   rfl
  refine tk_ 3 13 ?_ (bm_ 9 15) rfl rfl (take_ofW HT_.out HW_.out (by kernel_rfl)) (fun _ _ _ h=>h) (by rfl) ?_ hH ?_ ?_ ?_
  rotate_left
  ·rintro w' ⟨s0,s1,s2,s3⟩
   go_simp
   with_reducible rfl
  rotate_left
  ·simp only[Act.put,kss,i64_w,i32_w]
   rfl
  refine pu_ 5 15 ?_ (bm_ 9 47) rfl rfl (any_of HT_.out (by kernel_rfl)) (fun _ _ _ h=>h) (by rfl) ?_ ?_ ?_ ?_
  rotate_left
  ·intro w'
   go_simp
   with_reducible rfl
  rotate_left
  ·simp only[Act.put,kss,i64_w,i32_w]
   rfl
  refine tk_ 6 16 ?_ (bm_ 9 111) rfl rfl (take_ofW HT_.out HW_.out (by kernel_rfl)) (fun _ _ _ h=>h) (by rfl) ?_ hH ?_ ?_ ?_
  rotate_left
  ·rintro w' ⟨s0,s1,s2,s3⟩
   go_simp
   with_reducible rfl
  rotate_left
  ·simp only[Act.put,kss,i64_w,i32_w]
   rfl
  refine one_ (i:=4) (N:=some 14) (bm_ 9 127) rfl rfl (one_of HT_.out (by kernel_rfl)) (by decide) (fun Kc hK=>?_)
  refine kgo Tryz.func45 #[.slice A0_0 l0_0.length c0_0,.slice A1_0 l1_0.length c1_0] (by rfl) rfl rfl ?_
  refine(whole_amount_plus.calls _ _ _ _ l0_0 _ _ _ l1_0 x7 _ (K.V 0 (hv hVs rfl)) (K.V 1 (hv hVs rfl)) A8.out).mono ?_
  rintro e W' ⟨v12,rfl,ho15,hb⟩
  replace K:=K.addI 0 (fun k=>(fun k=>P0_0_ k) k∨(fun k=>P1_0_ k) k) hb ho15 (fun _ h=>h.elim (fun h=>(h).l) fun h=>(h).r)
  clear hb ho15
  refine⟨_,rfl,hK.out _ _ (HS.out _ _ _ _ K) fun hH=>?_⟩
  clear hK Kc
  refine norm_ (a':=?_) ?_ ?_
  rotate_left
  ·show Act.put _ (some 14) _=_
   simp only[Act.put,kss,i64_w,i32_w]
   rfl
  refine one_ (i:=7) (N:=some 17) (bm_ 9 255) rfl rfl (one_of HT_.out (by kernel_rfl)) (by decide) (fun Kc hK=>?_)
  obtain⟨P16,c17,e18⟩:=K.slice 2 (hv hVs rfl)
  subst e18
  refine kgo Tryz.func47 #[.slice P16 x7.length c17,.bool a0_1] (by rfl) rfl rfl ?_
  refine(whole_signed.calls _ _ _ x7 a0_1 x9 z10 _ (K.V 2 (hv hVs rfl)) A11.out).mono ?_
  rintro e W' ⟨v13,rfl,ho19,hb⟩
  replace K:=K.addI 1 (fun k=>(fun k=>P0_0_ k) k∨(fun k=>P1_0_ k) k) hb ho19 (fun _ h=>h)
  clear hb ho19
  refine⟨_,rfl,hK.out _ _ (HS.out _ _ _ _ K) fun hH=>?_⟩
  clear hK Kc
  refine norm_ (a':=?_) ?_ ?_
  rotate_left
  ·show Act.put _ (some 17) _=_
   simp only[Act.put,kss,i64_w,i32_w]
   rfl
  obtain⟨P20,c21,e22⟩:=K.slice 3 (hv hVs rfl)
  subst e22
  rw[hBs.out,hVs.out,hOs.out]at K
  simp only[kls,klv]at K
  clear hBs hVs hOs HS hH
  refine ko2 (i:=8) (bm_ 9 511) 2 (.slice P20 x9.length c21) (.bool z10) K rfl rfl rfl (one_of HT_.out (by kernel_rfl)) (by decide) (by rfl) (fun W K=>⟨K.cell 0 rfl 0 rfl,K.cell 0 rfl 1 rfl,K.cell 1 rfl 0 rfl,K.cell 1 rfl 1 rfl⟩) ?_
  clear K
  intro W23 K
  simp only[kls,klv]at K
  refine done_ (done_of HT_.out (by kernel_rfl)) ?_
  clear HT_ HW_
  simp only[Option.some.injEq,Prod.mk.injEq]at h
  obtain⟨rfl,rfl⟩:=h
  go_wp2
  refine bodyPost_ret (results_single rfl (.cell g5 80 #[.slice P20 x9.length c21,.bool z10] (0,0) _ rfl (K.u.heap 2 rfl) Tryz.underlying80 rfl (by kernel_rfl) .nil)) rfl ?_
  exact⟨_,rfl,K.u.hand 3 rfl (fun k_ h=>by first|exact h|exact .inr (h.resolve_left id)|(simp only[or_false,false_or,or_self]at h ⊢;first|exact h|(rcases h with h|h<;>simp_all)|simp_all)),K.u.below⟩
 rw[if_neg c_0]at h
 replace c_0:=Bool.eq_false_iff.mpr c_0
 have c_0b:decide (a0_1=a1_1)=false:=by simpa using c_0
 replace h:=bindA h
 obtain⟨n7,A8,h⟩:=h
 by_cases c_1:n7≥0
 ·rw[if_pos c_1]at h
  have c_1b:decide (n7≥0)=true:=decide_eq_true c_1
  go_enter Tryz.func99,Tryz.ntmps99
  go_wp2_with (first|(refine gd 2 rfl ?_;refine kbk 2 #[.slice A0_0 l0_0.length c0_0,.bool a0_1] 80 K.u ?_;clear K;intro g1 W2 K)|(refine gd 3 rfl ?_;refine kbk 3 #[.slice A1_0 l1_0.length c1_0,.bool a1_1] 80 K.u ?_;clear K;intro g3 W4 K)|(refine gd 4 rfl ?_;refine kbk 4 #[.slice none 0 0,.bool false] 80 K.u ?_;clear K;intro g5 W6 K;obtain⟨ua0,ub0⟩:=K.cell2 0 rfl;obtain⟨ua1,ub1⟩:=K.cell2 1 rfl)|(refine gd 22 rfl ?_;clear ua0 ub0 ua1 ub1;refine kgl (some 22) rfl rfl Tryz.func127 #[.slice A0_0 l0_0.length c0_0,.slice A1_0 l1_0.length c1_0] rfl ?_;refine(whole_amount_cmp.calls _ _ _ l0_0 _ _ l1_0 n7 _ (K.C 0 rfl) (K.le 0 rfl) (K.C 1 rfl) (K.le 1 rfl) A8.out).mono ?_;rintro e W9 ⟨rfl,hb⟩;refine⟨_,rfl,?_⟩;replace K:=K.u.up hb.below;clear hb))
  replace h:=bindA h
  obtain⟨x10,A11,h⟩:=h
  replace h:=bindA h
  obtain⟨⟨x12,z13⟩,A14,h⟩:=h
  dsimp only at h
  obtain⟨Bs,Vs,Os,hBs,hVs,hOs,K⟩:=K.abs
  have HS:Aside0 (∀l m o W,Kp w (Bs++l) m o W→W.cell? ⟨g1,0,none⟩=some (.slice A0_0 l0_0.length c0_0)∧W.cell? ⟨g1,1,none⟩=some (.bool a0_1)∧W.cell? ⟨g3,0,none⟩=some (.slice A1_0 l1_0.length c1_0)∧W.cell? ⟨g3,1,none⟩=some (.bool a1_1)):=⟨fun l m o W K=>by rw[hBs.out]at K;exact⟨K.cell 0 rfl 0 rfl,K.cell 0 rfl 1 rfl,K.cell 1 rfl 0 rfl,K.cell 1 rfl 1 rfl⟩⟩
  refine kpstart (n:=9) (ds:=[]) (S:=fun W=>W.cell? ⟨g1,0,none⟩=some (.slice A0_0 l0_0.length c0_0)∧W.cell? ⟨g1,1,none⟩=some (.bool a0_1)∧W.cell? ⟨g3,0,none⟩=some (.slice A1_0 l1_0.length c1_0)∧W.cell? ⟨g3,1,none⟩=some (.bool a1_1)) (bm_ 9 0) (by kernel_rfl) rfl rfl K (HS.out [] _ _) (fun W17 K hH=>?_)
  refine with_tabW whole_number_plus.tab4 whole_number_plus.bits4 (fun HT_ HW_=>?_)
  refine pu_ 0 24 ?_ (bm_ 9 1) rfl rfl (any_of HT_.out (by kernel_rfl)) (fun _ _ _ h=>h) (by rfl) ?_ ?_ ?_ ?_
  rotate_left
  ·intro w'
   go_simp
   with_reducible rfl
  rotate_left
  ·simp only[Act.put,kss,i64_w,i32_w]
   rfl
  refine tk_ 1 25 ?_ (bm_ 9 3) rfl rfl (take_ofW HT_.out HW_.out (by kernel_rfl)) (fun _ _ _ h=>h) (by rfl) ?_ hH ?_ ?_ ?_
  rotate_left
  ·rintro w' ⟨s0,s1,s2,s3⟩
   go_simp
   with_reducible rfl
  rotate_left
  ·simp only[Act.put,kss,i64_w,i32_w]
   rfl
  refine pu_ 2 26 ?_ (bm_ 9 7) rfl rfl (any_of HT_.out (by kernel_rfl)) (fun _ _ _ h=>h) (by rfl) ?_ ?_ ?_ ?_
  rotate_left
  ·intro w'
   go_simp
   with_reducible rfl
  rotate_left
  ·simp only[Act.put,kss,i64_w,i32_w]
   rfl
  refine tk_ 3 27 ?_ (bm_ 9 15) rfl rfl (take_ofW HT_.out HW_.out (by kernel_rfl)) (fun _ _ _ h=>h) (by rfl) ?_ hH ?_ ?_ ?_
  rotate_left
  ·rintro w' ⟨s0,s1,s2,s3⟩
   go_simp
   with_reducible rfl
  rotate_left
  ·simp only[Act.put,kss,i64_w,i32_w]
   rfl
  refine pu_ 5 29 ?_ (bm_ 9 47) rfl rfl (any_of HT_.out (by kernel_rfl)) (fun _ _ _ h=>h) (by rfl) ?_ ?_ ?_ ?_
  rotate_left
  ·intro w'
   go_simp
   with_reducible rfl
  rotate_left
  ·simp only[Act.put,kss,i64_w,i32_w]
   rfl
  refine tk_ 6 30 ?_ (bm_ 9 111) rfl rfl (take_ofW HT_.out HW_.out (by kernel_rfl)) (fun _ _ _ h=>h) (by rfl) ?_ hH ?_ ?_ ?_
  rotate_left
  ·rintro w' ⟨s0,s1,s2,s3⟩
   go_simp
   with_reducible rfl
  rotate_left
  ·simp only[Act.put,kss,i64_w,i32_w]
   rfl
  refine one_ (i:=4) (N:=some 28) (bm_ 9 127) rfl rfl (one_of HT_.out (by kernel_rfl)) (by decide) (fun Kc hK=>?_)
  refine kgo Tryz.func169 #[.slice A0_0 l0_0.length c0_0,.slice A1_0 l1_0.length c1_0] (by rfl) rfl rfl ?_
  refine(whole_amount_minus.calls _ _ _ l0_0 _ _ l1_0 x10 _ (K.C 0 (hv hVs rfl)) (K.le 0 (hv hVs rfl)) (K.C 1 (hv hVs rfl)) (K.le 1 (hv hVs rfl)) A11.out).mono ?_
  rintro e W' ⟨v15,rfl,ho18,hb⟩
  replace K:=K.addFI 0 (fun _=>False) hb ho18
  clear hb ho18
  refine⟨_,rfl,hK.out _ _ (HS.out _ _ _ _ K) fun hH=>?_⟩
  clear hK Kc
  refine norm_ (a':=?_) ?_ ?_
  rotate_left
  ·show Act.put _ (some 28) _=_
   simp only[Act.put,kss,i64_w,i32_w]
   rfl
  refine one_ (i:=7) (N:=some 31) (bm_ 9 255) rfl rfl (one_of HT_.out (by kernel_rfl)) (by decide) (fun Kc hK=>?_)
  obtain⟨P19,c20,e21⟩:=K.slice 2 (hv hVs rfl)
  subst e21
  refine kgo Tryz.func47 #[.slice P19 x10.length c20,.bool a0_1] (by rfl) rfl rfl ?_
  refine(whole_signed.calls _ _ _ x10 a0_1 x12 z13 _ (K.V 2 (hv hVs rfl)) A14.out).mono ?_
  rintro e W' ⟨v16,rfl,ho22,hb⟩
  replace K:=K.addI 1 (fun _=>False) hb ho22 (fun _ h=>h)
  clear hb ho22
  refine⟨_,rfl,hK.out _ _ (HS.out _ _ _ _ K) fun hH=>?_⟩
  clear hK Kc
  refine norm_ (a':=?_) ?_ ?_
  rotate_left
  ·show Act.put _ (some 31) _=_
   simp only[Act.put,kss,i64_w,i32_w]
   rfl
  obtain⟨P23,c24,e25⟩:=K.slice 3 (hv hVs rfl)
  subst e25
  rw[hBs.out,hVs.out,hOs.out]at K
  simp only[kls,klv]at K
  clear hBs hVs hOs HS hH
  refine ko2 (i:=8) (bm_ 9 511) 2 (.slice P23 x12.length c24) (.bool z13) K rfl rfl rfl (one_of HT_.out (by kernel_rfl)) (by decide) (by rfl) (fun W K=>⟨K.cell 0 rfl 0 rfl,K.cell 0 rfl 1 rfl,K.cell 1 rfl 0 rfl,K.cell 1 rfl 1 rfl⟩) ?_
  clear K
  intro W26 K
  simp only[kls,klv]at K
  refine done_ (done_of HT_.out (by kernel_rfl)) ?_
  clear HT_ HW_
  simp only[Option.some.injEq,Prod.mk.injEq]at h
  obtain⟨rfl,rfl⟩:=h
  go_wp2
  refine bodyPost_ret (results_single rfl (.cell g5 80 #[.slice P23 x12.length c24,.bool z13] (0,0) _ rfl (K.u.heap 2 rfl) Tryz.underlying80 rfl (by kernel_rfl) .nil)) rfl ?_
  exact⟨_,rfl,K.u.hand 3 rfl (fun k_ h=>h.elim (fun h=>h.elim) .inr),K.u.below⟩
 rw[if_neg c_1]at h
 have c_1b:decide (n7≥0)=false:=decide_eq_false c_1
 go_enter Tryz.func99,Tryz.ntmps99
 go_wp2_with (first|(refine gd 2 rfl ?_;refine kbk 2 #[.slice A0_0 l0_0.length c0_0,.bool a0_1] 80 K.u ?_;clear K;intro g1 W2 K)|(refine gd 3 rfl ?_;refine kbk 3 #[.slice A1_0 l1_0.length c1_0,.bool a1_1] 80 K.u ?_;clear K;intro g3 W4 K)|(refine gd 4 rfl ?_;refine kbk 4 #[.slice none 0 0,.bool false] 80 K.u ?_;clear K;intro g5 W6 K;obtain⟨ua0,ub0⟩:=K.cell2 0 rfl;obtain⟨ua1,ub1⟩:=K.cell2 1 rfl)|(refine gd 22 rfl ?_;clear ua0 ub0 ua1 ub1;refine kgl (some 22) rfl rfl Tryz.func127 #[.slice A0_0 l0_0.length c0_0,.slice A1_0 l1_0.length c1_0] rfl ?_;refine(whole_amount_cmp.calls _ _ _ l0_0 _ _ l1_0 n7 _ (K.C 0 rfl) (K.le 0 rfl) (K.C 1 rfl) (K.le 1 rfl) A8.out).mono ?_;rintro e W9 ⟨rfl,hb⟩;refine⟨_,rfl,?_⟩;replace K:=K.u.up hb.below;clear hb))
 replace h:=bindA h
 obtain⟨x10,A11,h⟩:=h
 replace h:=bindA h
 obtain⟨⟨x12,z13⟩,A14,h⟩:=h
 dsimp only at h
 obtain⟨Bs,Vs,Os,hBs,hVs,hOs,K⟩:=K.abs
 have HS:Aside0 (∀l m o W,Kp w (Bs++l) m o W→W.cell? ⟨g3,0,none⟩=some (.slice A1_0 l1_0.length c1_0)∧W.cell? ⟨g3,1,none⟩=some (.bool a1_1)∧W.cell? ⟨g1,0,none⟩=some (.slice A0_0 l0_0.length c0_0)∧W.cell? ⟨g1,1,none⟩=some (.bool a0_1)):=⟨fun l m o W K=>by rw[hBs.out]at K;exact⟨K.cell 1 rfl 0 rfl,K.cell 1 rfl 1 rfl,K.cell 0 rfl 0 rfl,K.cell 0 rfl 1 rfl⟩⟩
 refine kpstart (n:=9) (ds:=[]) (S:=fun W=>W.cell? ⟨g3,0,none⟩=some (.slice A1_0 l1_0.length c1_0)∧W.cell? ⟨g3,1,none⟩=some (.bool a1_1)∧W.cell? ⟨g1,0,none⟩=some (.slice A0_0 l0_0.length c0_0)∧W.cell? ⟨g1,1,none⟩=some (.bool a0_1)) (bm_ 9 0) (by kernel_rfl) rfl rfl K (HS.out [] _ _) (fun W17 K hH=>?_)
 refine with_tabW whole_number_plus.tab5 whole_number_plus.bits5 (fun HT_ HW_=>?_)
 refine pu_ 0 32 ?_ (bm_ 9 1) rfl rfl (any_of HT_.out (by kernel_rfl)) (fun _ _ _ h=>h) (by rfl) ?_ ?_ ?_ ?_
 rotate_left
 ·intro w'
  go_simp
  with_reducible rfl
 rotate_left
 ·simp only[Act.put,kss,i64_w,i32_w]
  rfl
 refine tk_ 1 33 ?_ (bm_ 9 3) rfl rfl (take_ofW HT_.out HW_.out (by kernel_rfl)) (fun _ _ _ h=>h) (by rfl) ?_ hH ?_ ?_ ?_
 rotate_left
 ·rintro w' ⟨s0,s1,s2,s3⟩
  go_simp
  with_reducible rfl
 rotate_left
 ·simp only[Act.put,kss,i64_w,i32_w]
  rfl
 refine pu_ 2 34 ?_ (bm_ 9 7) rfl rfl (any_of HT_.out (by kernel_rfl)) (fun _ _ _ h=>h) (by rfl) ?_ ?_ ?_ ?_
 rotate_left
 ·intro w'
  go_simp
  with_reducible rfl
 rotate_left
 ·simp only[Act.put,kss,i64_w,i32_w]
  rfl
 refine tk_ 3 35 ?_ (bm_ 9 15) rfl rfl (take_ofW HT_.out HW_.out (by kernel_rfl)) (fun _ _ _ h=>h) (by rfl) ?_ hH ?_ ?_ ?_
 rotate_left
 ·rintro w' ⟨s0,s1,s2,s3⟩
  go_simp
  with_reducible rfl
 rotate_left
 ·simp only[Act.put,kss,i64_w,i32_w]
  rfl
 refine pu_ 5 37 ?_ (bm_ 9 47) rfl rfl (any_of HT_.out (by kernel_rfl)) (fun _ _ _ h=>h) (by rfl) ?_ ?_ ?_ ?_
 rotate_left
 ·intro w'
  go_simp
  with_reducible rfl
 rotate_left
 ·simp only[Act.put,kss,i64_w,i32_w]
  rfl
 refine tk_ 6 38 ?_ (bm_ 9 111) rfl rfl (take_ofW HT_.out HW_.out (by kernel_rfl)) (fun _ _ _ h=>h) (by rfl) ?_ hH ?_ ?_ ?_
 rotate_left
 ·rintro w' ⟨s0,s1,s2,s3⟩
  go_simp
  with_reducible rfl
 rotate_left
 ·simp only[Act.put,kss,i64_w,i32_w]
  rfl
 refine one_ (i:=4) (N:=some 36) (bm_ 9 127) rfl rfl (one_of HT_.out (by kernel_rfl)) (by decide) (fun Kc hK=>?_)
 refine kgo Tryz.func169 #[.slice A1_0 l1_0.length c1_0,.slice A0_0 l0_0.length c0_0] (by rfl) rfl rfl ?_
 refine(whole_amount_minus.calls _ _ _ l1_0 _ _ l0_0 x10 _ (K.C 1 (hv hVs rfl)) (K.le 1 (hv hVs rfl)) (K.C 0 (hv hVs rfl)) (K.le 0 (hv hVs rfl)) A11.out).mono ?_
 rintro e W' ⟨v15,rfl,ho18,hb⟩
 replace K:=K.addFI 0 (fun _=>False) hb ho18
 clear hb ho18
 refine⟨_,rfl,hK.out _ _ (HS.out _ _ _ _ K) fun hH=>?_⟩
 clear hK Kc
 refine norm_ (a':=?_) ?_ ?_
 rotate_left
 ·show Act.put _ (some 36) _=_
  simp only[Act.put,kss,i64_w,i32_w]
  rfl
 refine one_ (i:=7) (N:=some 39) (bm_ 9 255) rfl rfl (one_of HT_.out (by kernel_rfl)) (by decide) (fun Kc hK=>?_)
 obtain⟨P19,c20,e21⟩:=K.slice 2 (hv hVs rfl)
 subst e21
 refine kgo Tryz.func47 #[.slice P19 x10.length c20,.bool a1_1] (by rfl) rfl rfl ?_
 refine(whole_signed.calls _ _ _ x10 a1_1 x12 z13 _ (K.V 2 (hv hVs rfl)) A14.out).mono ?_
 rintro e W' ⟨v16,rfl,ho22,hb⟩
 replace K:=K.addI 1 (fun _=>False) hb ho22 (fun _ h=>h)
 clear hb ho22
 refine⟨_,rfl,hK.out _ _ (HS.out _ _ _ _ K) fun hH=>?_⟩
 clear hK Kc
 refine norm_ (a':=?_) ?_ ?_
 rotate_left
 ·show Act.put _ (some 39) _=_
  simp only[Act.put,kss,i64_w,i32_w]
  rfl
 obtain⟨P23,c24,e25⟩:=K.slice 3 (hv hVs rfl)
 subst e25
 rw[hBs.out,hVs.out,hOs.out]at K
 simp only[kls,klv]at K
 clear hBs hVs hOs HS hH
 refine ko2 (i:=8) (bm_ 9 511) 2 (.slice P23 x12.length c24) (.bool z13) K rfl rfl rfl (one_of HT_.out (by kernel_rfl)) (by decide) (by rfl) (fun W K=>⟨K.cell 1 rfl 0 rfl,K.cell 1 rfl 1 rfl,K.cell 0 rfl 0 rfl,K.cell 0 rfl 1 rfl⟩) ?_
 clear K
 intro W26 K
 simp only[kls,klv]at K
 refine done_ (done_of HT_.out (by kernel_rfl)) ?_
 clear HT_ HW_
 simp only[Option.some.injEq,Prod.mk.injEq]at h
 obtain⟨rfl,rfl⟩:=h
 go_wp2
 refine bodyPost_ret (results_single rfl (.cell g5 80 #[.slice P23 x12.length c24,.bool z13] (0,0) _ rfl (K.u.heap 2 rfl) Tryz.underlying80 rfl (by kernel_rfl) .nil)) rfl ?_
 exact⟨_,rfl,K.u.hand 3 rfl (fun k_ h=>h.elim (fun h=>h.elim) .inr),K.u.below⟩
def whole_one.f:Option (List Int×Bool):=some ((([1]:List Int)),false)
theorem whole_one.calls (r1:List Int) (r2:Bool) (w:World) (h:whole_one.f=some (r1,r2)) :
  Calls Tryz.prog 100 #[] w fun e w'=>∃v0_:Value,e=.returned (.agg #[v0_,.bool r2])∧Kd.R (Kd.int .u64) 72 w' w.heap.size (fun _=>True) v0_ r1∧Below w.heap.size w w':=by
 have hu80:=Tryz.underlying80
 have HB:=Aside0.mk (Below.refl w.heap.size w)
 have H:(some ((([1]:List Int)),false))=some (r1,r2):=h
 clear h
 obtain⟨y299,hy299⟩:∃y_:List Int,y_=(([1]:List Int)):=⟨_,rfl⟩
 replace H:(some (y299,false))=some (r1,r2):=by first|(rw[hy299];with_reducible exact H)|(have H2_:=(Option.bind_some _ _).symm.trans H;rw[hy299];with_reducible exact H2_)|(have H2_:=(Option.bind_some _ _).symm.trans H;with_reducible exact H2_)|with_reducible exact H|(rw[hy299];exact H)|exact H
 have Ny299:=Aside0.mk hy299
 clear hy299
 simp only[Option.some.injEq,Prod.mk.injEq]at H
 obtain⟨rfl,rfl⟩:=H
 go_enter Tryz.func100,Tryz.ntmps100
 go_wp2_with (first|(refine gd 0 rfl ?_;refine kbe 0 #[.slice none 0 0,.bool false] 80 ?_;intro gb298 hg w1 hbox hb;have BK298:=Aside0.mk (hbox);have GW298:=kbz hg HB;have GE298:=kbz hg HB;replace HB:=kbs HB hb;clear hb hbox hg)|(refine gd 1 rfl ?_;refine Kd.R_lit (Kd.int .u64) _ 72 ?hg (N:=1) ?hd (xs:=([1]:List Int)) (inner:=[.int .u64 1]) (ok:=fun _=>True) (okp:=fun _=>True) ?hr ?hp (fun _ hk=>hk) trivial (Below.refl _ _) (Nat.le_refl _) (by simp) ?_;(case hd=>rfl);(case hg=>rfl);(case hr=>first|(go_simp;done)|(go_simp;rfl));(case hp=>exact(Reps.one (show Kd.M (Kd.int .u64) _ _ _ 1 [.int .u64 1] from rfl) (Reps.none _ _)));intro v300 w2 ho3 hb hg_ hnew_;clear hg_ hnew_;(first|rw[←Ny299.out]at ho3|(simp only[Int.reduceToNat]at ho3;rw[←Ny299.out]at ho3));have HO301:=Aside0.mk (Kd.R_lower ho3 (below_size (khu HB.out)));replace BK298:=kbb BK298 hb;replace HB:=kbs HB hb;clear hb ho3;obtain⟨Ao4,co4,eo4⟩:=Kd.R_slice HO301.out;subst eo4;have hcz5_0:w2.cell? ⟨gb298,0,none⟩=some (.slice none 0 0):=(blk_cell BK298.out 0).trans rfl;have hcz5_1:w2.cell? ⟨gb298,1,none⟩=some (.bool false):=(blk_cell BK298.out 1).trans rfl;have hfz5_0:=blk_frozen BK298.out 0;have hfz5_1:=blk_frozen BK298.out 1))
 refine bodyPost_ret (results_cell_row rfl _ _ gb298 80 #[.slice Ao4 y299.length co4,.bool false] (0,0) _ rfl (kpu #[.slice Ao4 y299.length co4,.bool false] 1 (kpu #[.slice none 0 0,.bool false] 0 (kbu BK298.out))) Tryz.underlying80 rfl (by kernel_rfl)) rfl ?_
 exact⟨_,by first|rfl|(simp[*,errW_none,errW_some]<;>rfl),by(with_reducible repeat (first|apply Kd.R_alloc|apply Kd.R_drewN|apply Kd.R_drew));exact Kd.R_mono (Kd.R_far (p:=⟨gb298,1,none⟩) (Kd.R_far (p:=⟨gb298,0,none⟩) (Kd.R_types HO301.out BK298.out (by decide)) (fun _ hk=>hk.2) (.slice Ao4 y299.length co4)) (fun _ hk=>hk.2) (.bool false)) (fun _ hk=>trivial),by repeat (first|(with_reducible first|exact HB.out|apply below_alloc|apply pw_below_drewN|apply below_drew1|refine below_set ?_ GE298.out)|exact HB.out)⟩
def whole_number_opposite.f (l0_0:List Int) (a0_1:Bool):Option (List Int×Bool):=(whole_signed.f l0_0 (!a0_1)).bind fun bt304=>(some (bt304.1,bt304.2))
theorem whole_number_opposite.calls (P0_0_:Nat→Prop) (A0_0:Option Addr) (c0_0:Nat) (l0_0:List Int) (a0_1:Bool) (r1:List Int) (r2:Bool) (w:World) (hs0_0:Kd.V (Kd.int .u64) 72 w w.heap.size (fun k_=>P0_0_ k_) (.slice A0_0 l0_0.length c0_0) l0_0) (h:whole_number_opposite.f l0_0 a0_1=some (r1,r2)) :
  Calls Tryz.prog 136 #[.agg #[.slice A0_0 l0_0.length c0_0,.bool a0_1]] w fun e w'=>∃v0_:Value,e=.returned (.agg #[v0_,.bool r2])∧Kd.V (Kd.int .u64) 72 w' w.heap.size (fun k_=>(P0_0_ k_∨w.heap.size≤k_)) v0_ r1∧Below w.heap.size w w':=by
 have hu80:=Tryz.underlying80
 have K:=Kp.refl w
 replace K:=K.parV (Kd.V_mono (ok':=fun k=>P0_0_ k) hs0_0 (fun _ h=>h))
 clear hs0_0
 try simp only[klv]at K
 rw[whole_number_opposite.f]at h
 replace h:=bindA h
 obtain⟨⟨x5,z6⟩,A7,h⟩:=h
 dsimp only at h
 simp only[Option.some.injEq,Prod.mk.injEq]at h
 obtain⟨rfl,rfl⟩:=h
 go_enter Tryz.func136,Tryz.ntmps136
 go_wp2_with (first|(refine gd 1 rfl ?_;refine kbk 1 #[.slice A0_0 l0_0.length c0_0,.bool a0_1] 80 K.u ?_;clear K;intro g1 W2 K)|(refine gd 2 rfl ?_;refine kbk 2 #[.slice none 0 0,.bool false] 80 K.u ?_;clear K;intro g3 W4 K;obtain⟨ua0,ub0⟩:=K.cell2 0 rfl)|(refine gd 8 rfl ?_;clear ua0 ub0;refine kgl (some 8) rfl rfl Tryz.func47 #[.slice A0_0 l0_0.length c0_0,.bool !a0_1] rfl ?_;refine(whole_signed.calls _ _ _ l0_0 (!a0_1) x5 z6 _ (K.V 0 rfl) A7.out).mono ?_;rintro e W10 ⟨v8,rfl,ho9,hb⟩;refine⟨_,rfl,?_⟩;replace K:=K.u.add (fun k=>P0_0_ k) hb ho9 (fun _ h=>h);clear hb ho9;obtain⟨P11,c12,e13⟩:=K.slice 1 rfl;subst e13)|(refine gs 80 2 8 rfl ?_;refine ks2 1 (.slice P11 x5.length c12) (.bool z6) K.u rfl ?_;clear K;intro W14 K;simp only[kls,klv]at K))
 refine bodyPost_ret (results_single rfl (.cell g3 80 #[.slice P11 x5.length c12,.bool z6] (0,0) _ rfl (K.u.heap 1 rfl) Tryz.underlying80 rfl (by kernel_rfl) .nil)) rfl ?_
 exact⟨_,rfl,K.u.hand 1 rfl (fun k_ h=>h.elim (fun h=>.inl h) .inr),K.u.below⟩
def whole_number_minus.f (k:Nat) (l0_0:List Int) (a0_1:Bool) (l1_0:List Int) (a1_1:Bool):Option (List Int×Bool):=(whole_number_opposite.f l1_0 a1_1).bind fun bt311=>((whole_number_plus.f k l0_0 a0_1 bt311.1 bt311.2).bind fun bt315=>(some (bt315.1,bt315.2)))
theorem whole_number_minus.calls (k:Nat) (P0_0_:Nat→Prop) (A0_0:Option Addr) (c0_0:Nat) (l0_0:List Int) (a0_1:Bool) (P1_0_:Nat→Prop) (A1_0:Option Addr) (c1_0:Nat) (l1_0:List Int) (a1_1:Bool) (r1:List Int) (r2:Bool) (w:World) (hs0_0:Kd.V (Kd.int .u64) 72 w w.heap.size (fun k_=>P0_0_ k_) (.slice A0_0 l0_0.length c0_0) l0_0) (hs1_0:Kd.V (Kd.int .u64) 72 w w.heap.size (fun k_=>P1_0_ k_) (.slice A1_0 l1_0.length c1_0) l1_0) (h:whole_number_minus.f k l0_0 a0_1 l1_0 a1_1=some (r1,r2)) :
  Calls Tryz.prog 101 #[.agg #[.slice A0_0 l0_0.length c0_0,.bool a0_1],.agg #[.slice A1_0 l1_0.length c1_0,.bool a1_1]] w fun e w'=>∃v0_:Value,e=.returned (.agg #[v0_,.bool r2])∧Kd.V (Kd.int .u64) 72 w' w.heap.size (fun k_=>((P0_0_ k_∨P1_0_ k_)∨w.heap.size≤k_)) v0_ r1∧Below w.heap.size w w':=by
 have hu80:=Tryz.underlying80
 have K:=Kp.refl w
 replace K:=K.parV (Kd.V_mono (ok':=fun k=>P0_0_ k) hs0_0 (fun _ h=>h))
 clear hs0_0
 replace K:=K.parV (Kd.V_mono (ok':=fun k=>P1_0_ k) hs1_0 (fun _ h=>h))
 clear hs1_0
 try simp only[klv]at K
 rw[whole_number_minus.f]at h
 go_enter Tryz.func101,Tryz.ntmps101
 go_wp2_with (first|(refine gd 2 rfl ?_;refine kbk 2 #[.slice A0_0 l0_0.length c0_0,.bool a0_1] 80 K.u ?_;clear K;intro g1 W2 K)|(refine gd 3 rfl ?_;refine kbk 3 #[.slice A1_0 l1_0.length c1_0,.bool a1_1] 80 K.u ?_;clear K;intro g3 W4 K)|(refine gd 4 rfl ?_;refine kbk 4 #[.slice none 0 0,.bool false] 80 K.u ?_;clear K;intro g5 W6 K))
 replace h:=bindA h
 obtain⟨⟨x7,z8⟩,A9,h⟩:=h
 dsimp only at h
 replace h:=bindA h
 obtain⟨⟨x10,z11⟩,A12,h⟩:=h
 dsimp only at h
 obtain⟨Bs,Vs,Os,hBs,hVs,hOs,K⟩:=K.abs
 have HS:Aside0 (∀l m o W,Kp w (Bs++l) m o W→W.cell? ⟨g1,0,none⟩=some (.slice A0_0 l0_0.length c0_0)∧W.cell? ⟨g1,1,none⟩=some (.bool a0_1)∧W.cell? ⟨g3,0,none⟩=some (.slice A1_0 l1_0.length c1_0)∧W.cell? ⟨g3,1,none⟩=some (.bool a1_1)):=⟨fun l m o W K=>by rw[hBs.out]at K;exact⟨K.cell 0 rfl 0 rfl,K.cell 0 rfl 1 rfl,K.cell 1 rfl 0 rfl,K.cell 1 rfl 1 rfl⟩⟩
 refine kpstart (n:=5) (ds:=[]) (S:=fun W=>W.cell? ⟨g1,0,none⟩=some (.slice A0_0 l0_0.length c0_0)∧W.cell? ⟨g1,1,none⟩=some (.bool a0_1)∧W.cell? ⟨g3,0,none⟩=some (.slice A1_0 l1_0.length c1_0)∧W.cell? ⟨g3,1,none⟩=some (.bool a1_1)) (bm_ 5 0) (by kernel_rfl) rfl rfl K (HS.out [] _ _) (fun W15 K hH=>?_)
 refine tk_ 0 5 ?_ (bm_ 5 1) rfl rfl (by kernel_rfl) (fun _ _ _ h=>h) (by rfl) ?_ hH ?_ ?_ ?_
 rotate_left
 ·rintro w' ⟨s0,s1,s2,s3⟩
  go_simp
  with_reducible rfl
 rotate_left
 ·simp only[Act.put,kss,i64_w,i32_w]
  rfl
 refine tk_ 1 6 ?_ (bm_ 5 3) rfl rfl (by kernel_rfl) (fun _ _ _ h=>h) (by rfl) ?_ hH ?_ ?_ ?_
 rotate_left
 ·rintro w' ⟨s0,s1,s2,s3⟩
  go_simp
  with_reducible rfl
 rotate_left
 ·simp only[Act.put,kss,i64_w,i32_w]
  rfl
 refine one_ (i:=2) (N:=some 7) (bm_ 5 7) rfl rfl (by kernel_rfl) (by decide) (fun Kc hK=>?_)
 refine kgo Tryz.func136 #[.agg #[.slice A1_0 l1_0.length c1_0,.bool a1_1]] (by rfl) rfl rfl ?_
 refine(whole_number_opposite.calls _ _ _ l1_0 a1_1 x7 z8 _ (K.V 1 (hv hVs rfl)) A9.out).mono ?_
 rintro e W' ⟨v13,rfl,ho16,hb⟩
 replace K:=K.addI 0 (fun k=>P1_0_ k) hb ho16 (fun _ h=>h)
 clear hb ho16
 refine⟨_,rfl,hK.out _ _ (HS.out _ _ _ _ K) fun hH=>?_⟩
 clear hK Kc
 refine norm_ (a':=?_) ?_ ?_
 rotate_left
 ·show Act.put _ (some 7) _=_
  simp only[Act.put,kss,i64_w,i32_w]
  rfl
 refine one_ (i:=3) (N:=some 8) (bm_ 5 15) rfl rfl (by kernel_rfl) (by decide) (fun Kc hK=>?_)
 obtain⟨P17,c18,e19⟩:=K.slice 2 (hv hVs rfl)
 subst e19
 refine kgo Tryz.func99 #[.agg #[.slice A0_0 l0_0.length c0_0,.bool a0_1],.agg #[.slice P17 x7.length c18,.bool z8]] (by rfl) rfl rfl ?_
 refine(whole_number_plus.calls _ _ _ _ l0_0 a0_1 _ _ _ x7 z8 x10 z11 _ (K.V 0 (hv hVs rfl)) (K.V 2 (hv hVs rfl)) A12.out).mono ?_
 rintro e W' ⟨v14,rfl,ho20,hb⟩
 replace K:=K.addI 1 (fun k=>(fun k=>P0_0_ k) k∨(fun k=>P1_0_ k) k) hb ho20 (fun _ h=>h.elim (fun h=>(h).l) fun h=>(h).r)
 clear hb ho20
 refine⟨_,rfl,hK.out _ _ (HS.out _ _ _ _ K) fun hH=>?_⟩
 clear hK Kc
 refine norm_ (a':=?_) ?_ ?_
 rotate_left
 ·show Act.put _ (some 8) _=_
  simp only[Act.put,kss,i64_w,i32_w]
  rfl
 obtain⟨P21,c22,e23⟩:=K.slice 3 (hv hVs rfl)
 subst e23
 rw[hBs.out,hVs.out,hOs.out]at K
 simp only[kls,klv]at K
 clear hBs hVs hOs HS hH
 refine ko2 (i:=4) (bm_ 5 31) 2 (.slice P21 x10.length c22) (.bool z11) K rfl rfl rfl (by kernel_rfl) (by decide) (by rfl) (fun W K=>⟨K.cell 0 rfl 0 rfl,K.cell 0 rfl 1 rfl,K.cell 1 rfl 0 rfl,K.cell 1 rfl 1 rfl⟩) ?_
 clear K
 intro W24 K
 simp only[kls,klv]at K
 refine done_ (by kernel_rfl) ?_
 simp only[Option.some.injEq,Prod.mk.injEq]at h
 obtain⟨rfl,rfl⟩:=h
 go_wp2
 refine bodyPost_ret (results_single rfl (.cell g5 80 #[.slice P21 x10.length c22,.bool z11] (0,0) _ rfl (K.u.heap 2 rfl) Tryz.underlying80 rfl (by kernel_rfl) .nil)) rfl ?_
 exact⟨_,rfl,K.u.hand 3 rfl (fun k_ h=>by first|exact h|exact .inr (h.resolve_left id)|(simp only[or_false,false_or,or_self]at h ⊢;first|exact h|(rcases h with h|h<;>simp_all)|simp_all)),K.u.below⟩
end Go.Proofs.YtikencoikigllaaGreatDoor.PRy
namespace Go.Proofs.YtikencoikigllaaGreatDoor.PRy
open Go.RowKit Go.Proofs.YtikencoikigllaaGreatDoorW.PrintWords Go.Proofs.YtikencoikigllaaGreatDoorW.PrintLast Go.Proofs.YtikencoikigllaaGreatDoorW.PrintMore
open Go.Proofs.YtikencoikigllaaGreatDoor.Mine
attribute [local go_sem] max2_int min2_int max_two min_two max_three min_three max_four min_four
mutual
def whole_rounded.j0:Nat→Bool→Bool→List Int→Bool→List Int→Bool→List Int→Bool→Option (Bool×List Int×Int)
 | 0,_,_,_,_,_,_,_,_=>none
 | k+1,x2,x28,x327000,x327001,x341000,x341001,x342000,x342001=>if x28=true then((whole_one.f).bind fun bt348=>((whole_number_plus.f k x341000 x341001 bt348.1 bt348.2).bind fun bt352=>((whole_number_told.f bt352.1 bt352.2).bind fun bt356=>(some (bt356.1,bt356.2.1,bt356.2.2))))) else(if x2=true then(whole_rounded.j1 k false x341000 x341001) else(whole_rounded.j1 k (x342001 != x327001) x341000 x341001))
def whole_rounded.j1:Nat→Bool→List Int→Bool→Option (Bool×List Int×Int)
 | 0,_,_,_=>none
 | k+1,x40,x341000,x341001=>if x40=true then((whole_one.f).bind fun bt361=>((whole_number_minus.f k x341000 x341001 bt361.1 bt361.2).bind fun bt365=>((whole_number_told.f bt365.1 bt365.2).bind fun bt369=>(some (bt369.1,bt369.2.1,bt369.2.2))))) else((whole_number_told.f x341000 x341001).bind fun bt374=>(some (bt374.1,bt374.2.1,bt374.2.2)))
end
def whole_rounded.f (k:Nat) (a0_0:Bool) (l0_1:List Int) (a1_0:Bool) (l1_1:List Int) (a2:Bool):Option (Bool×List Int×Int):=(whole_of.f k a1_0 l1_1).bind fun bt322=>((whole_amount_null.f bt322.1).bind fun t327=>(if t327=true then(some (false,([]:List Int),11)) else((whole_of.f k a0_0 l0_1).bind fun bt328=>((whole_number_cut.f k bt328.1 bt328.2 bt322.1 bt322.2).bind fun bt332=>((whole_amount_null.f bt332.2.2.1).bind fun t342=>(if t342=true then((whole_number_told.f bt332.1 bt332.2.1).bind fun bt343=>(some (bt343.1,bt343.2.1,bt343.2.2))) else(if a2=true then(whole_rounded.j0 k a2 (bt332.2.2.2==bt322.2) bt322.1 bt322.2 bt332.1 bt332.2.1 bt332.2.2.1 bt332.2.2.2) else(whole_rounded.j0 k a2 false bt322.1 bt322.2 bt332.1 bt332.2.1 bt332.2.2.1 bt332.2.2.2))))))))
def whole_rounded.T4:Bool×List (List Nat×List Nat):=(true,[([],[]),([0],[0]),([],[]),([1,2,1],[1,2]),([3],[3]),([4],[4]),([4],[4]),([],[]),([],[]),([7,5,3,0,1,2,3,4,5,7,8],[5,7]),([8,6,9,0,1,2,3,4,5,6,7,8,9],[6,8])])
def whole_rounded.B4:List Nat:=[0,1,0,7,15,31,31,0,0,447,1023]
theorem whole_rounded.tab4:rtab .any (opsOf Tryz.f129 4)=whole_rounded.T4:=by kernel_rfl
theorem whole_rounded.bits4:waitsOk whole_rounded.T4.2 whole_rounded.B4=true:=by kernel_rfl
theorem whole_rounded.calls (k:Nat) (a0_0:Bool) (A0_1:Option Addr) (c0_1:Nat) (l0_1:List Int) (a1_0:Bool) (A1_1:Option Addr) (c1_1:Nat) (l1_1:List Int) (a2:Bool) (r1:Bool) (r2:List Int) (r3:Int) (w:World) (hr0_1:Kd.C (Kd.int .u64) w A0_1 l0_1.length l0_1) (hc0_1:l0_1.length≤c0_1) (hr1_1:Kd.C (Kd.int .u64) w A1_1 l1_1.length l1_1) (hc1_1:l1_1.length≤c1_1) (h:whole_rounded.f k a0_0 l0_1 a1_0 l1_1 a2=some (r1,r2,r3)) :
  Calls Tryz.prog 129 #[.agg #[.bool a0_0,.slice A0_1 l0_1.length c0_1],.agg #[.bool a1_0,.slice A1_1 l1_1.length c1_1],.bool a2] w fun e w'=>∃v1_:Value,e=.returned (.tuple #[.agg #[.bool r1,v1_],.int .i64 r3])∧Kd.R (Kd.int .u64) 72 w' w.heap.size (fun _=>True) v1_ r2∧Below w.heap.size w w':=by
 have hu26:=Tryz.underlying26
 have hu80:=Tryz.underlying80
 have K:=Kp.refl w
 replace K:=K.parV (Kd.V_mono (ok':=fun _=>True) (Kd.V_mk (e:=72) (base:=0) hc0_1 (Kd.C_F (Kd.heap_int .u64) hr0_1)) (fun _ h=>trivial))
 clear hr0_1 hc0_1
 replace K:=K.parV (Kd.V_mono (ok':=fun _=>True) (Kd.V_mk (e:=72) (base:=0) hc1_1 (Kd.C_F (Kd.heap_int .u64) hr1_1)) (fun _ h=>trivial))
 clear hr1_1 hc1_1
 try simp only[klv]at K
 rw[whole_rounded.f]at h
 replace h:=bindA h
 obtain⟨⟨x7,z8⟩,A9,h⟩:=h
 dsimp only at h
 replace h:=bindA h
 obtain⟨z20,A21,h⟩:=h
 by_cases c_0:z20=true
 ·subst c_0
  rw[if_pos rfl]at h
  simp only[Option.some.injEq,Prod.mk.injEq]at h
  obtain⟨rfl,rfl,rfl⟩:=h
  go_enter Tryz.func129,Tryz.ntmps129
  go_wp2_with (first|(refine gd 3 rfl ?_;refine kbk 3 #[.bool a0_0,.slice A0_1 l0_1.length c0_1] 26 K.u ?_;clear K;intro g1 W2 K)|(refine gd 4 rfl ?_;refine kbk 4 #[.bool a1_0,.slice A1_1 l1_1.length c1_1] 26 K.u ?_;clear K;intro g3 W4 K)|(refine gd 6 rfl ?_;refine kbk 6 #[.bool false,.slice none 0 0] 26 K.u ?_;clear K;intro g5 W6 K;obtain⟨ua1,ub1⟩:=K.cell2 1 rfl)|(refine gd 12 rfl ?_;clear ua1 ub1;refine kgl (some 12) rfl rfl Tryz.func52 #[.agg #[.bool a1_0,.slice A1_1 l1_1.length c1_1]] rfl ?_;refine(whole_of.calls _ a1_0 _ _ _ l1_1 x7 z8 _ (K.V 1 rfl) A9.out).mono ?_;rintro e W12 ⟨v10,rfl,ho11,hb⟩;refine⟨_,rfl,?_⟩;replace K:=K.u.add (fun _=>True) hb ho11 (fun _ h=>h.t);clear hb ho11;obtain⟨P13,c14,e15⟩:=K.slice 2 rfl;subst e15)|(refine gd 8 rfl ?_;refine kbk 8 #[.slice none 0 0,.bool false] 80 K.u ?_;clear K;intro g16 W17 K)|(refine gs 80 8 12 rfl ?_;refine ks2 3 (.slice P13 x7.length c14) (.bool z8) K.u rfl ?_;clear K;intro W18 K;simp only[kls,klv]at K;obtain⟨ua3,ub3⟩:=K.cell2 3 rfl)|(refine gd 15 rfl ?_;clear ua3 ub3;refine kgl (some 15) rfl rfl Tryz.func54 #[.slice P13 x7.length c14] rfl ?_;refine(whole_amount_null.calls _ _ x7 true _ (K.C 2 rfl) (K.le 2 rfl) A21.out).mono ?_;rintro e W22 ⟨rfl,hb⟩;refine⟨_,rfl,?_⟩;replace K:=K.u.up hb.below;clear hb)|(refine gs 26 6 16 rfl ?_;refine ks2 2 (.bool false) (.slice none 0 0) K.u rfl ?_;clear K;intro W23 K;simp only[kls,klv]at K))
  refine bodyPost_ret (results_list (rs:=[.cell 6 26,.tmp 7]) rfl (by simp) (.cell g5 26 #[.bool false,.slice none 0 0] (0,0) _ rfl (K.u.heap 2 rfl) Tryz.underlying26 rfl (by kernel_rfl) (.tmp .nil))) rfl ?_
  exact⟨_,rfl,Kd.R_nil _ _ _ _ _,K.u.below⟩
 replace c_0:=Bool.eq_false_iff.mpr c_0
 subst c_0
 rw[if_neg (by decide)]at h
 go_enter Tryz.func129,Tryz.ntmps129
 go_wp2_with (first|(refine gd 3 rfl ?_;refine kbk 3 #[.bool a0_0,.slice A0_1 l0_1.length c0_1] 26 K.u ?_;clear K;intro g1 W2 K)|(refine gd 4 rfl ?_;refine kbk 4 #[.bool a1_0,.slice A1_1 l1_1.length c1_1] 26 K.u ?_;clear K;intro g3 W4 K)|(refine gd 6 rfl ?_;refine kbk 6 #[.bool false,.slice none 0 0] 26 K.u ?_;clear K;intro g5 W6 K;obtain⟨ua1,ub1⟩:=K.cell2 1 rfl)|(refine gd 12 rfl ?_;clear ua1 ub1;refine kgl (some 12) rfl rfl Tryz.func52 #[.agg #[.bool a1_0,.slice A1_1 l1_1.length c1_1]] rfl ?_;refine(whole_of.calls _ a1_0 _ _ _ l1_1 x7 z8 _ (K.V 1 rfl) A9.out).mono ?_;rintro e W12 ⟨v10,rfl,ho11,hb⟩;refine⟨_,rfl,?_⟩;replace K:=K.u.add (fun _=>True) hb ho11 (fun _ h=>h.t);clear hb ho11;obtain⟨P13,c14,e15⟩:=K.slice 2 rfl;subst e15)|(refine gd 8 rfl ?_;refine kbk 8 #[.slice none 0 0,.bool false] 80 K.u ?_;clear K;intro g16 W17 K)|(refine gs 80 8 12 rfl ?_;refine ks2 3 (.slice P13 x7.length c14) (.bool z8) K.u rfl ?_;clear K;intro W18 K;simp only[kls,klv]at K;obtain⟨ua3,ub3⟩:=K.cell2 3 rfl)|(refine gd 15 rfl ?_;clear ua3 ub3;refine kgl (some 15) rfl rfl Tryz.func54 #[.slice P13 x7.length c14] rfl ?_;refine(whole_amount_null.calls _ _ x7 false _ (K.C 2 rfl) (K.le 2 rfl) A21.out).mono ?_;rintro e W22 ⟨rfl,hb⟩;refine⟨_,rfl,?_⟩;replace K:=K.u.up hb.below;clear hb))
 replace h:=bindA h
 obtain⟨⟨x23,z24⟩,A25,h⟩:=h
 dsimp only at h
 replace h:=bindA h
 obtain⟨⟨x26,z27,x28,z29⟩,A30,h⟩:=h
 dsimp only at h
 obtain⟨Bs,Vs,Os,hBs,hVs,hOs,K⟩:=K.abs
 have HS:Aside0 (∀l m o W,Kp w (Bs++l) m o W→W.cell? ⟨g1,0,none⟩=some (.bool a0_0)∧W.cell? ⟨g1,1,none⟩=some (.slice A0_1 l0_1.length c0_1)∧W.cell? ⟨g16,0,none⟩=some (.slice P13 x7.length c14)∧W.cell? ⟨g16,1,none⟩=some (.bool z8)):=⟨fun l m o W K=>by rw[hBs.out]at K;exact⟨K.cell 0 rfl 0 rfl,K.cell 0 rfl 1 rfl,K.cell 3 rfl 0 rfl,K.cell 3 rfl 1 rfl⟩⟩
 refine kpstart (n:=11) (ds:=[]) (S:=fun W=>W.cell? ⟨g1,0,none⟩=some (.bool a0_0)∧W.cell? ⟨g1,1,none⟩=some (.slice A0_1 l0_1.length c0_1)∧W.cell? ⟨g16,0,none⟩=some (.slice P13 x7.length c14)∧W.cell? ⟨g16,1,none⟩=some (.bool z8)) (bm_ 11 0) (by kernel_rfl) rfl rfl K (HS.out [] _ _) (fun W36 K hH=>?_)
 refine with_tabW whole_rounded.tab4 whole_rounded.bits4 (fun HT_ HW_=>?_)
 refine tk_ 0 18 ?_ (bm_ 11 1) rfl rfl (take_ofW HT_.out HW_.out (by kernel_rfl)) (fun _ _ _ h=>h) (by rfl) ?_ hH ?_ ?_ ?_
 rotate_left
 ·rintro w' ⟨s0,s1,s2,s3⟩
  go_simp
  with_reducible rfl
 rotate_left
 ·simp only[Act.put,kss,i64_w,i32_w]
  rfl
 refine tk_ 2 20 ?_ (bm_ 11 5) rfl rfl (take_ofW HT_.out HW_.out (by kernel_rfl)) (fun _ _ _ h=>h) (by rfl) ?_ hH ?_ ?_ ?_
 rotate_left
 ·rintro w' ⟨s0,s1,s2,s3⟩
  go_simp
  with_reducible rfl
 rotate_left
 ·simp only[Act.put,kss,i64_w,i32_w]
  rfl
 refine join_ (σ:=Value×Value×Value×Nat×Nat) 2 (bm_ 11 511) (fun s=>[(19,.agg #[s.1,.bool z24]),(21,.tuple #[.agg #[s.2.1,.bool z27],.agg #[s.2.2.1,.bool z29]]),(17,.tuple #[.agg #[s.2.1,.bool z27],.agg #[s.2.2.1,.bool z29]]),(22,.agg #[s.2.1,.bool z27]),(23,.agg #[s.2.2.1,.bool z29]),(9,.pointer (some ⟨s.2.2.2.1,0,none⟩)),(10,.pointer (some ⟨s.2.2.2.2,0,none⟩))]) (fun s W=>Kp w (Bs++[(s.2.2.2.1,#[.slice none 0 0,.bool false],80),(s.2.2.2.2,#[.slice none 0 0,.bool false],80)]) (Vs++[⟨Kd.int .u64,72,s.1,x23,fun _=>True⟩,⟨Kd.int .u64,72,s.2.1,x26,fun _=>True⟩,⟨Kd.int .u64,72,s.2.2.1,x28,fun _=>True⟩]) (Os++[]) W) ?_ (fun J37=>?_)
 ·rintro⟨v31,v32,v33,g34,g35⟩ W K
  try dsimp only at K
  have hH:=HS.out _ _ _ _ K
  refine norm_ (a':=?_) ?_ ?_
  rotate_left
  ·try simp only[putAll,Act.put,kss]
   rfl
  obtain⟨P44,c45,e46⟩:=K.slice 3 (hv hVs rfl)
  subst e46
  obtain⟨P47,c48,e49⟩:=K.slice 4 (hv hVs rfl)
  subst e49
  obtain⟨P50,c51,e52⟩:=K.slice 5 (hv hVs rfl)
  subst e52
  rw[hBs.out,hVs.out,hOs.out]at K
  simp only[kls,klv]at K
  clear hBs hVs hOs HS hH
  refine ko2 (i:=9) (bm_ 11 1023) 4 (.slice P47 x26.length c48) (.bool z27) K rfl rfl rfl (one_of HT_.out (by kernel_rfl)) (by decide) (by rfl) (fun W K=>⟨K.cell 0 rfl 0 rfl,K.cell 0 rfl 1 rfl,K.cell 3 rfl 0 rfl,K.cell 3 rfl 1 rfl⟩) ?_
  clear K
  intro W53 K
  simp only[kls,klv]at K
  refine ko2 (i:=10) (bm_ 11 2047) 5 (.slice P50 x28.length c51) (.bool z29) K rfl rfl rfl (one_of HT_.out (by kernel_rfl)) (by decide) (by rfl) (fun W K=>⟨K.cell 0 rfl 0 rfl,K.cell 0 rfl 1 rfl,K.cell 3 rfl 0 rfl,K.cell 3 rfl 1 rfl⟩) ?_
  clear K
  intro W54 K
  simp only[kls,klv]at K
  refine done_ (done_of HT_.out (by kernel_rfl)) ?_
  clear HT_ HW_
  replace h:=bindA h
  obtain⟨z55,A56,h⟩:=h
  by_cases c_1:z55=true
  ·subst c_1
   rw[if_pos rfl]at h
   replace h:=bindA h
   obtain⟨⟨z58,x59,n60⟩,A61,h⟩:=h
   dsimp only at h
   simp only[Option.some.injEq,Prod.mk.injEq]at h
   obtain⟨rfl,rfl,rfl⟩:=h
   obtain⟨ua5,ub5⟩:=K.cell2 5 rfl
   go_wp2_with (first|(refine gd 27 rfl ?_;clear ua5 ub5;refine kgl (some 27) rfl rfl Tryz.func54 #[.slice P50 x28.length c51] rfl ?_;refine(whole_amount_null.calls _ _ x28 true _ (K.C 5 rfl) (K.le 5 rfl) A56.out).mono ?_;rintro e W57 ⟨rfl,hb⟩;refine⟨_,rfl,?_⟩;replace K:=K.u.up hb.below;clear hb;obtain⟨ua4,ub4⟩:=K.cell2 4 rfl)|(refine gd 54 rfl ?_;clear ua4 ub4;refine kgl (some 54) rfl rfl Tryz.func48 #[.agg #[.slice P47 x26.length c48,.bool z27]] rfl ?_;refine(whole_number_told.calls _ _ x26 z27 z58 x59 n60 _ (K.C 4 rfl) (K.le 4 rfl) A61.out).mono ?_;rintro e W64 ⟨v62,rfl,ho63,hb⟩;refine⟨_,rfl,?_⟩;replace K:=K.u.addRE hb ho63;clear hb ho63;obtain⟨P65,c66,e67⟩:=K.slice 6 rfl;subst e67)|(refine gs 26 6 55 rfl ?_;refine ks2 2 (.bool z58) (.slice P65 x59.length c66) K.u rfl ?_;clear K;intro W68 K;simp only[kls,klv]at K))
   refine bodyPost_ret (results_list (rs:=[.cell 6 26,.tmp 7]) rfl (by simp) (.cell g5 26 #[.bool z58,.slice P65 x59.length c66] (0,0) _ rfl (K.u.heap 2 rfl) Tryz.underlying26 rfl (by kernel_rfl) (.tmp .nil))) rfl ?_
   exact⟨_,rfl,K.u.R 0 rfl,K.u.below⟩
  replace c_1:=Bool.eq_false_iff.mpr c_1
  subst c_1
  rw[if_neg (by decide)]at h
  by_cases c_2:a2=true
  ·subst c_2
   rw[if_pos rfl]at h
   obtain⟨k,rfl⟩:∃j,k=j+1:=by
    cases k with
    | zero=>simp[whole_rounded.j0]at h
    | succ k=>exact⟨k,rfl⟩
   rw[whole_rounded.j0]at h
   by_cases c_3:(z29==z8)=true
   ·rw[if_pos c_3]at h
    have c_3b:decide (z29=z8)=true:=by simpa using c_3
    obtain⟨ua5,ub5⟩:=K.cell2 5 rfl
    go_wp2_with (first|(refine gd 27 rfl ?_;clear ua5 ub5;refine kgl (some 27) rfl rfl Tryz.func54 #[.slice P50 x28.length c51] rfl ?_;refine(whole_amount_null.calls _ _ x28 false _ (K.C 5 rfl) (K.le 5 rfl) A56.out).mono ?_;rintro e W57 ⟨rfl,hb⟩;refine⟨_,rfl,?_⟩;replace K:=K.u.up hb.below;clear hb;obtain⟨ua5,ub5⟩:=K.cell2 5 rfl;obtain⟨ua3,ub3⟩:=K.cell2 3 rfl))
    clear ua5 ub5 ua3 ub3
    replace h:=bindA h
    obtain⟨⟨x58,z59⟩,A60,h⟩:=h
    dsimp only at h
    replace h:=bindA h
    obtain⟨⟨x61,z62⟩,A63,h⟩:=h
    dsimp only at h
    obtain⟨Bs,Vs,Os,hBs,hVs,hOs,K⟩:=K.abs
    have HS:Aside0 (∀l m o W,Kp w (Bs++l) m o W→W.cell? ⟨g34,0,none⟩=some (.slice P47 x26.length c48)∧W.cell? ⟨g34,1,none⟩=some (.bool z27)):=⟨fun l m o W K=>by rw[hBs.out]at K;exact⟨K.cell 4 rfl 0 rfl,K.cell 4 rfl 1 rfl⟩⟩
    refine kpstart (n:=4) (ds:=[3]) (S:=fun W=>W.cell? ⟨g34,0,none⟩=some (.slice P47 x26.length c48)∧W.cell? ⟨g34,1,none⟩=some (.bool z27)) (bm_ 4 0) (by kernel_rfl) rfl rfl K (HS.out [] _ _) (fun W66 K hH=>?_)
    refine tk_ 0 37 ?_ (bm_ 4 1) rfl rfl (by kernel_rfl) (fun _ _ _ h=>h) (by rfl) ?_ hH ?_ ?_ ?_
    rotate_left
    ·rintro w' ⟨s0,s1⟩
     go_simp
     with_reducible rfl
    rotate_left
    ·simp only[Act.put,kss,i64_w,i32_w]
     rfl
    refine one_ (i:=1) (N:=some 38) (bm_ 4 3) rfl rfl (by kernel_rfl) (by decide) (fun Kc hK=>?_)
    refine kgo Tryz.func100 #[] (by rfl) rfl rfl ?_
    refine(whole_one.calls x58 z59 _ A60.out).mono ?_
    rintro e W' ⟨v64,rfl,ho67,hb⟩
    replace K:=K.addRI 0 0 hb ho67 (lb rfl)
    clear hb ho67
    refine⟨_,rfl,hK.out _ _ (HS.out _ _ _ _ K) fun hH=>?_⟩
    clear hK Kc
    refine norm_ (a':=?_) ?_ ?_
    rotate_left
    ·show Act.put _ (some 38) _=_
     simp only[Act.put,kss,i64_w,i32_w]
     rfl
    refine one_ (i:=2) (N:=some 39) (bm_ 4 7) rfl rfl (by kernel_rfl) (by decide) (fun Kc hK=>?_)
    obtain⟨P68,c69,e70⟩:=K.slice 6 (hv hVs rfl)
    subst e70
    refine kgo Tryz.func99 #[.agg #[.slice P47 x26.length c48,.bool z27],.agg #[.slice P68 x58.length c69,.bool z59]] (by rfl) rfl rfl ?_
    refine(whole_number_plus.calls _ _ _ _ x26 z27 _ _ _ x58 z59 x61 z62 _ (K.V 4 (hv hVs rfl)) (K.V 6 (hv hVs rfl)) A63.out).mono ?_
    rintro e W' ⟨v65,rfl,ho71,hb⟩
    replace K:=K.addI 1 (fun _=>True) hb ho71 (fun _ h=>h.elim (fun h=>h.t) fun h=>h.t)
    clear hb ho71
    refine⟨_,rfl,hK.out _ _ (HS.out _ _ _ _ K) fun hH=>?_⟩
    clear hK Kc
    refine norm_ (a':=?_) ?_ ?_
    rotate_left
    ·show Act.put _ (some 39) _=_
     simp only[Act.put,kss,i64_w,i32_w]
     rfl
    obtain⟨P72,c73,e74⟩:=K.slice 7 (hv hVs rfl)
    subst e74
    rw[hBs.out,hVs.out,hOs.out]at K
    simp only[kls,klv]at K
    clear hBs hVs hOs HS hH
    refine klast2 (i:=3) (bm_ 4 15) 4 (.slice P72 x61.length c73) (.bool z62) K rfl rfl rfl (by kernel_rfl) (by decide) (by rfl) ?_ ?_
    ·intro c0 c1 f0 f1
     first|(go_simp;done)|(go_simp;rfl)
    clear K
    intro W75 K
    simp only[kls,klv]at K
    refine done_ (by kernel_rfl) ?_
    replace h:=bindA h
    obtain⟨⟨z76,x77,n78⟩,A79,h⟩:=h
    dsimp only at h
    simp only[Option.some.injEq,Prod.mk.injEq]at h
    obtain⟨rfl,rfl,rfl⟩:=h
    obtain⟨ua4,ub4⟩:=K.cell2 4 rfl
    go_wp2_with (first|(refine gd 54 rfl ?_;clear ua4 ub4;refine kgl (some 54) rfl rfl Tryz.func48 #[.agg #[.slice P72 x61.length c73,.bool z62]] rfl ?_;refine(whole_number_told.calls _ _ x61 z62 z76 x77 n78 _ (K.C 7 rfl) (K.le 7 rfl) A79.out).mono ?_;rintro e W82 ⟨v80,rfl,ho81,hb⟩;refine⟨_,rfl,?_⟩;replace K:=K.u.addRE hb ho81;clear hb ho81;obtain⟨P83,c84,e85⟩:=K.slice 8 rfl;subst e85)|(refine gs 26 6 55 rfl ?_;refine ks2 2 (.bool z76) (.slice P83 x77.length c84) K.u rfl ?_;clear K;intro W86 K;simp only[kls,klv]at K))
    refine bodyPost_ret (results_list (rs:=[.cell 6 26,.tmp 7]) rfl (by simp) (.cell g5 26 #[.bool z76,.slice P83 x77.length c84] (0,0) _ rfl (K.u.heap 2 rfl) Tryz.underlying26 rfl (by kernel_rfl) (.tmp .nil))) rfl ?_
    exact⟨_,rfl,K.u.R 1 rfl,K.u.below⟩
   rw[if_neg c_3]at h
   replace c_3:=Bool.eq_false_iff.mpr c_3
   have c_3b:decide (z29=z8)=false:=by simpa using c_3
   rw[if_pos rfl]at h
   obtain⟨k,rfl⟩:∃j,k=j+1:=by
    cases k with
    | zero=>simp[whole_rounded.j1]at h
    | succ k=>exact⟨k,rfl⟩
   rw[whole_rounded.j1]at h
   rw[if_neg (by decide)]at h
   replace h:=bindA h
   obtain⟨⟨z58,x59,n60⟩,A61,h⟩:=h
   dsimp only at h
   simp only[Option.some.injEq,Prod.mk.injEq]at h
   obtain⟨rfl,rfl,rfl⟩:=h
   obtain⟨ua5,ub5⟩:=K.cell2 5 rfl
   go_wp2_with (first|(refine gd 27 rfl ?_;clear ua5 ub5;refine kgl (some 27) rfl rfl Tryz.func54 #[.slice P50 x28.length c51] rfl ?_;refine(whole_amount_null.calls _ _ x28 false _ (K.C 5 rfl) (K.le 5 rfl) A56.out).mono ?_;rintro e W57 ⟨rfl,hb⟩;refine⟨_,rfl,?_⟩;replace K:=K.u.up hb.below;clear hb;obtain⟨ua5,ub5⟩:=K.cell2 5 rfl;obtain⟨ua3,ub3⟩:=K.cell2 3 rfl;obtain⟨ua4,ub4⟩:=K.cell2 4 rfl)|(refine gd 54 rfl ?_;clear ua5 ub5 ua3 ub3 ua4 ub4;refine kgl (some 54) rfl rfl Tryz.func48 #[.agg #[.slice P47 x26.length c48,.bool z27]] rfl ?_;refine(whole_number_told.calls _ _ x26 z27 z58 x59 n60 _ (K.C 4 rfl) (K.le 4 rfl) A61.out).mono ?_;rintro e W64 ⟨v62,rfl,ho63,hb⟩;refine⟨_,rfl,?_⟩;replace K:=K.u.addRE hb ho63;clear hb ho63;obtain⟨P65,c66,e67⟩:=K.slice 6 rfl;subst e67)|(refine gs 26 6 55 rfl ?_;refine ks2 2 (.bool z58) (.slice P65 x59.length c66) K.u rfl ?_;clear K;intro W68 K;simp only[kls,klv]at K))
   refine bodyPost_ret (results_list (rs:=[.cell 6 26,.tmp 7]) rfl (by simp) (.cell g5 26 #[.bool z58,.slice P65 x59.length c66] (0,0) _ rfl (K.u.heap 2 rfl) Tryz.underlying26 rfl (by kernel_rfl) (.tmp .nil))) rfl ?_
   exact⟨_,rfl,K.u.R 0 rfl,K.u.below⟩
  replace c_2:=Bool.eq_false_iff.mpr c_2
  subst c_2
  rw[if_neg (by decide)]at h
  obtain⟨k,rfl⟩:∃j,k=j+1:=by
   cases k with
   | zero=>simp[whole_rounded.j0]at h
   | succ k=>exact⟨k,rfl⟩
  rw[whole_rounded.j0]at h
  rw[if_neg (by decide)]at h
  rw[if_neg (by decide)]at h
  obtain⟨k,rfl⟩:∃j,k=j+1:=by
   cases k with
   | zero=>simp[whole_rounded.j1]at h
   | succ k=>exact⟨k,rfl⟩
  rw[whole_rounded.j1]at h
  by_cases c_4:(z29 != z8)=true
  ·rw[if_pos c_4]at h
   have c_4b:(z29==z8)=false:=by simpa using c_4
   obtain⟨ua5,ub5⟩:=K.cell2 5 rfl
   go_wp2_with (first|(refine gd 27 rfl ?_;clear ua5 ub5;refine kgl (some 27) rfl rfl Tryz.func54 #[.slice P50 x28.length c51] rfl ?_;refine(whole_amount_null.calls _ _ x28 false _ (K.C 5 rfl) (K.le 5 rfl) A56.out).mono ?_;rintro e W57 ⟨rfl,hb⟩;refine⟨_,rfl,?_⟩;replace K:=K.u.up hb.below;clear hb;obtain⟨ua5,ub5⟩:=K.cell2 5 rfl;obtain⟨ua3,ub3⟩:=K.cell2 3 rfl))
   clear ua5 ub5 ua3 ub3
   replace h:=bindA h
   obtain⟨⟨x58,z59⟩,A60,h⟩:=h
   dsimp only at h
   replace h:=bindA h
   obtain⟨⟨x61,z62⟩,A63,h⟩:=h
   dsimp only at h
   obtain⟨Bs,Vs,Os,hBs,hVs,hOs,K⟩:=K.abs
   have HS:Aside0 (∀l m o W,Kp w (Bs++l) m o W→W.cell? ⟨g34,0,none⟩=some (.slice P47 x26.length c48)∧W.cell? ⟨g34,1,none⟩=some (.bool z27)):=⟨fun l m o W K=>by rw[hBs.out]at K;exact⟨K.cell 4 rfl 0 rfl,K.cell 4 rfl 1 rfl⟩⟩
   refine kpstart (n:=4) (ds:=[3]) (S:=fun W=>W.cell? ⟨g34,0,none⟩=some (.slice P47 x26.length c48)∧W.cell? ⟨g34,1,none⟩=some (.bool z27)) (bm_ 4 0) (by kernel_rfl) rfl rfl K (HS.out [] _ _) (fun W66 K hH=>?_)
   refine tk_ 0 50 ?_ (bm_ 4 1) rfl rfl (by kernel_rfl) (fun _ _ _ h=>h) (by rfl) ?_ hH ?_ ?_ ?_
   rotate_left
   ·rintro w' ⟨s0,s1⟩
    go_simp
    with_reducible rfl
   rotate_left
   ·simp only[Act.put,kss,i64_w,i32_w]
    rfl
   refine one_ (i:=1) (N:=some 51) (bm_ 4 3) rfl rfl (by kernel_rfl) (by decide) (fun Kc hK=>?_)
   refine kgo Tryz.func100 #[] (by rfl) rfl rfl ?_
   refine(whole_one.calls x58 z59 _ A60.out).mono ?_
   rintro e W' ⟨v64,rfl,ho67,hb⟩
   replace K:=K.addRI 0 0 hb ho67 (lb rfl)
   clear hb ho67
   refine⟨_,rfl,hK.out _ _ (HS.out _ _ _ _ K) fun hH=>?_⟩
   clear hK Kc
   refine norm_ (a':=?_) ?_ ?_
   rotate_left
   ·show Act.put _ (some 51) _=_
    simp only[Act.put,kss,i64_w,i32_w]
    rfl
   refine one_ (i:=2) (N:=some 52) (bm_ 4 7) rfl rfl (by kernel_rfl) (by decide) (fun Kc hK=>?_)
   obtain⟨P68,c69,e70⟩:=K.slice 6 (hv hVs rfl)
   subst e70
   refine kgo Tryz.func101 #[.agg #[.slice P47 x26.length c48,.bool z27],.agg #[.slice P68 x58.length c69,.bool z59]] (by rfl) rfl rfl ?_
   refine(whole_number_minus.calls _ _ _ _ x26 z27 _ _ _ x58 z59 x61 z62 _ (K.V 4 (hv hVs rfl)) (K.V 6 (hv hVs rfl)) A63.out).mono ?_
   rintro e W' ⟨v65,rfl,ho71,hb⟩
   replace K:=K.addI 1 (fun _=>True) hb ho71 (fun _ h=>h.elim (fun h=>h.t) fun h=>h.t)
   clear hb ho71
   refine⟨_,rfl,hK.out _ _ (HS.out _ _ _ _ K) fun hH=>?_⟩
   clear hK Kc
   refine norm_ (a':=?_) ?_ ?_
   rotate_left
   ·show Act.put _ (some 52) _=_
    simp only[Act.put,kss,i64_w,i32_w]
    rfl
   obtain⟨P72,c73,e74⟩:=K.slice 7 (hv hVs rfl)
   subst e74
   rw[hBs.out,hVs.out,hOs.out]at K
   simp only[kls,klv]at K
   clear hBs hVs hOs HS hH
   refine klast2 (i:=3) (bm_ 4 15) 4 (.slice P72 x61.length c73) (.bool z62) K rfl rfl rfl (by kernel_rfl) (by decide) (by rfl) ?_ ?_
   ·intro c0 c1 f0 f1
    first|(go_simp;done)|(go_simp;rfl)
   clear K
   intro W75 K
   simp only[kls,klv]at K
   refine done_ (by kernel_rfl) ?_
   replace h:=bindA h
   obtain⟨⟨z76,x77,n78⟩,A79,h⟩:=h
   dsimp only at h
   simp only[Option.some.injEq,Prod.mk.injEq]at h
   obtain⟨rfl,rfl,rfl⟩:=h
   obtain⟨ua4,ub4⟩:=K.cell2 4 rfl
   go_wp2_with (first|(refine gd 54 rfl ?_;clear ua4 ub4;refine kgl (some 54) rfl rfl Tryz.func48 #[.agg #[.slice P72 x61.length c73,.bool z62]] rfl ?_;refine(whole_number_told.calls _ _ x61 z62 z76 x77 n78 _ (K.C 7 rfl) (K.le 7 rfl) A79.out).mono ?_;rintro e W82 ⟨v80,rfl,ho81,hb⟩;refine⟨_,rfl,?_⟩;replace K:=K.u.addRE hb ho81;clear hb ho81;obtain⟨P83,c84,e85⟩:=K.slice 8 rfl;subst e85)|(refine gs 26 6 55 rfl ?_;refine ks2 2 (.bool z76) (.slice P83 x77.length c84) K.u rfl ?_;clear K;intro W86 K;simp only[kls,klv]at K))
   refine bodyPost_ret (results_list (rs:=[.cell 6 26,.tmp 7]) rfl (by simp) (.cell g5 26 #[.bool z76,.slice P83 x77.length c84] (0,0) _ rfl (K.u.heap 2 rfl) Tryz.underlying26 rfl (by kernel_rfl) (.tmp .nil))) rfl ?_
   exact⟨_,rfl,K.u.R 1 rfl,K.u.below⟩
  rw[if_neg c_4]at h
  replace c_4:=Bool.eq_false_iff.mpr c_4
  have c_4b:(z29==z8)=true:=by simpa using c_4
  replace h:=bindA h
  obtain⟨⟨z58,x59,n60⟩,A61,h⟩:=h
  dsimp only at h
  simp only[Option.some.injEq,Prod.mk.injEq]at h
  obtain⟨rfl,rfl,rfl⟩:=h
  obtain⟨ua5,ub5⟩:=K.cell2 5 rfl
  go_wp2_with (first|(refine gd 27 rfl ?_;clear ua5 ub5;refine kgl (some 27) rfl rfl Tryz.func54 #[.slice P50 x28.length c51] rfl ?_;refine(whole_amount_null.calls _ _ x28 false _ (K.C 5 rfl) (K.le 5 rfl) A56.out).mono ?_;rintro e W57 ⟨rfl,hb⟩;refine⟨_,rfl,?_⟩;replace K:=K.u.up hb.below;clear hb;obtain⟨ua5,ub5⟩:=K.cell2 5 rfl;obtain⟨ua3,ub3⟩:=K.cell2 3 rfl;obtain⟨ua4,ub4⟩:=K.cell2 4 rfl)|(refine gd 54 rfl ?_;clear ua5 ub5 ua3 ub3 ua4 ub4;refine kgl (some 54) rfl rfl Tryz.func48 #[.agg #[.slice P47 x26.length c48,.bool z27]] rfl ?_;refine(whole_number_told.calls _ _ x26 z27 z58 x59 n60 _ (K.C 4 rfl) (K.le 4 rfl) A61.out).mono ?_;rintro e W64 ⟨v62,rfl,ho63,hb⟩;refine⟨_,rfl,?_⟩;replace K:=K.u.addRE hb ho63;clear hb ho63;obtain⟨P65,c66,e67⟩:=K.slice 6 rfl;subst e67)|(refine gs 26 6 55 rfl ?_;refine ks2 2 (.bool z58) (.slice P65 x59.length c66) K.u rfl ?_;clear K;intro W68 K;simp only[kls,klv]at K))
  refine bodyPost_ret (results_list (rs:=[.cell 6 26,.tmp 7]) rfl (by simp) (.cell g5 26 #[.bool z58,.slice P65 x59.length c66] (0,0) _ rfl (K.u.heap 2 rfl) Tryz.underlying26 rfl (by kernel_rfl) (.tmp .nil))) rfl ?_
  exact⟨_,rfl,K.u.R 0 rfl,K.u.below⟩
 refine join_ (σ:=Value×Value×Value×Nat×Nat) 3 (bm_ 11 383) (fun s=>[(19,.agg #[s.1,.bool z24]),(21,.tuple #[.agg #[s.2.1,.bool z27],.agg #[s.2.2.1,.bool z29]]),(17,.tuple #[.agg #[s.2.1,.bool z27],.agg #[s.2.2.1,.bool z29]]),(22,.agg #[s.2.1,.bool z27]),(23,.agg #[s.2.2.1,.bool z29]),(10,.pointer (some ⟨s.2.2.2.2,0,none⟩))]) (fun s W=>Kp w (Bs++[(s.2.2.2.2,#[.slice none 0 0,.bool false],80)]) (Vs++[⟨Kd.int .u64,72,s.1,x23,fun _=>True⟩,⟨Kd.int .u64,72,s.2.1,x26,fun _=>True⟩,⟨Kd.int .u64,72,s.2.2.1,x28,fun _=>True⟩]) (Os++[]) W) ?_ (fun J38=>?_)
 ·rintro⟨v31,v32,v33,g34,g35⟩ W K
  try dsimp only at K
  have hH:=HS.out _ _ _ _ K
  refine norm_ (a':=?_) ?_ ?_
  rotate_left
  ·try simp only[putAll,Act.put,kss]
   rfl
  refine one_ (i:=7) (N:=some 9) (bm_ 11 511) rfl rfl (one_of HT_.out (by kernel_rfl)) (by decide) (fun Kc hK=>?_)
  exact kbx #[.slice none 0 0,.bool false] 80 9 fun g34 hg W' hx hb=>hK.out _ _ (HS.out _ _ _ _ (K.boxI 0 (lb rfl) hg hx hb)) fun _=>knq (J37 (v31,v32,v33,g34,g35) _ (K.boxI 0 (lb rfl) hg hx hb))
 refine join_ (σ:=Value×Value×Value×Nat×Nat) 3 (bm_ 11 255) (fun s=>[(19,.agg #[s.1,.bool z24]),(21,.tuple #[.agg #[s.2.1,.bool z27],.agg #[s.2.2.1,.bool z29]]),(17,.tuple #[.agg #[s.2.1,.bool z27],.agg #[s.2.2.1,.bool z29]]),(22,.agg #[s.2.1,.bool z27]),(23,.agg #[s.2.2.1,.bool z29]),(9,.pointer (some ⟨s.2.2.2.1,0,none⟩))]) (fun s W=>Kp w (Bs++[(s.2.2.2.1,#[.slice none 0 0,.bool false],80)]) (Vs++[⟨Kd.int .u64,72,s.1,x23,fun _=>True⟩,⟨Kd.int .u64,72,s.2.1,x26,fun _=>True⟩,⟨Kd.int .u64,72,s.2.2.1,x28,fun _=>True⟩]) (Os++[]) W) ?_ (fun J39=>?_)
 ·rintro⟨v31,v32,v33,g34,g35⟩ W K
  try dsimp only at K
  have hH:=HS.out _ _ _ _ K
  refine norm_ (a':=?_) ?_ ?_
  rotate_left
  ·try simp only[putAll,Act.put,kss]
   rfl
  refine one_ (i:=8) (N:=some 10) (bm_ 11 511) rfl rfl (one_of HT_.out (by kernel_rfl)) (by decide) (fun Kc hK=>?_)
  exact kbx #[.slice none 0 0,.bool false] 80 10 fun g35 hg W' hx hb=>hK.out _ _ (HS.out _ _ _ _ (K.boxI 1 (lb rfl) hg hx hb)) fun _=>knq (J37 (v31,v32,v33,g34,g35) _ (K.boxI 1 (lb rfl) hg hx hb))
 refine join_ (σ:=Value×Value×Value×Nat×Nat) 6 (bm_ 11 391) (fun s=>[(19,.agg #[s.1,.bool z24]),(9,.pointer (some ⟨s.2.2.2.1,0,none⟩)),(10,.pointer (some ⟨s.2.2.2.2,0,none⟩))]) (fun s W=>Kp w (Bs++[(s.2.2.2.1,#[.slice none 0 0,.bool false],80),(s.2.2.2.2,#[.slice none 0 0,.bool false],80)]) (Vs++[⟨Kd.int .u64,72,s.1,x23,fun _=>True⟩]) (Os++[]) W) ?_ (fun J40=>?_)
 ·rintro⟨v31,v32,v33,g34,g35⟩ W K
  try dsimp only at K
  have hH:=HS.out _ _ _ _ K
  refine norm_ (a':=?_) ?_ ?_
  rotate_left
  ·try simp only[putAll,Act.put,kss]
   rfl
  refine one_ (i:=3) (N:=some 21) (bm_ 11 399) rfl rfl (one_of HT_.out (by kernel_rfl)) (by decide) (fun Kc hK=>?_)
  obtain⟨P70,c71,e72⟩:=K.slice 3 (hv hVs rfl)
  subst e72
  refine kgo Tryz.func98 #[.agg #[.slice P70 x23.length c71,.bool z24],.agg #[.slice P13 x7.length c14,.bool z8]] (by rfl) rfl rfl ?_
  refine(whole_number_cut.calls _ _ _ _ x23 z24 _ _ x7 z8 x26 z27 x28 z29 _ (K.V 3 (hv hVs rfl)) (K.C 2 (hv hVs rfl)) (K.le 2 (hv hVs rfl)) A30.out).mono ?_
  rintro e W' ⟨v32,v33,rfl,ho73,ho74,hb⟩
  have K1:=K.addI 1 (fun _=>True) hb ho73 (fun _ h=>h.t)
  replace K:=K.moreI 2 (fun _=>True) K1 ho74 (fun _ h=>h.t)
  clear K1
  clear hb ho73 ho74
  refine⟨_,rfl,hK.out _ _ (HS.out _ _ _ _ K) fun hH=>?_⟩
  refine norm_ (a':=?_) ?_ ?_
  rotate_left
  ·show Act.put _ (some 21) _=_
   simp only[Act.put,kss,i64_w,i32_w]
   rfl
  refine pu_ 4 17 ?_ (bm_ 11 415) rfl rfl (any_of HT_.out (by kernel_rfl)) (fun _ _ _ h=>h) (by rfl) ?_ ?_ ?_ ?_
  rotate_left
  ·intro w'
   go_simp
   with_reducible rfl
  rotate_left
  ·simp only[Act.put,kss,i64_w,i32_w]
   rfl
  refine pu_ 5 22 ?_ (bm_ 11 447) rfl rfl (any_of HT_.out (by kernel_rfl)) (fun _ _ _ h=>h) (by rfl) ?_ ?_ ?_ ?_
  rotate_left
  ·intro w'
   go_simp
   with_reducible rfl
  rotate_left
  ·simp only[Act.put,kss,i64_w,i32_w]
   rfl
  refine pu_ 6 23 ?_ (bm_ 11 511) rfl rfl (any_of HT_.out (by kernel_rfl)) (fun _ _ _ h=>h) (by rfl) ?_ ?_ ?_ ?_
  rotate_left
  ·intro w'
   go_simp
   with_reducible rfl
  rotate_left
  ·simp only[Act.put,kss,i64_w,i32_w]
   rfl
  exact knq (J37 (.slice P70 x23.length c71,v32,v33,g34,g35) _ K)
 refine join_ (σ:=Value×Value×Value×Nat×Nat) 7 (bm_ 11 389) (fun s=>[(9,.pointer (some ⟨s.2.2.2.1,0,none⟩)),(10,.pointer (some ⟨s.2.2.2.2,0,none⟩))]) (fun s W=>Kp w (Bs++[(s.2.2.2.1,#[.slice none 0 0,.bool false],80),(s.2.2.2.2,#[.slice none 0 0,.bool false],80)]) (Vs++[]) (Os++[]) W) ?_ (fun J41=>?_)
 ·rintro⟨v31,v32,v33,g34,g35⟩ W K
  try dsimp only at K
  have hH:=HS.out _ _ _ _ K
  refine norm_ (a':=?_) ?_ ?_
  rotate_left
  ·try simp only[putAll,Act.put,kss]
   rfl
  refine one_ (i:=1) (N:=some 19) (bm_ 11 391) rfl rfl (one_of HT_.out (by kernel_rfl)) (by decide) (fun Kc hK=>?_)
  refine kgo Tryz.func52 #[.agg #[.bool a0_0,.slice A0_1 l0_1.length c0_1]] (by rfl) rfl rfl ?_
  refine(whole_of.calls _ a0_0 _ _ _ l0_1 x23 z24 _ (K.V 0 (hv hVs rfl)) A25.out).mono ?_
  rintro e W' ⟨v31,rfl,ho75,hb⟩
  replace K:=K.addI 0 (fun _=>True) hb ho75 (fun _ h=>h.t)
  clear hb ho75
  refine⟨_,rfl,hK.out _ _ (HS.out _ _ _ _ K) fun hH=>?_⟩
  exact knq (J40 (v31,v32,v33,g34,g35) _ K)
 refine join_ (σ:=Value×Value×Value×Nat×Nat) 7 (bm_ 11 263) (fun s=>[(19,.agg #[s.1,.bool z24]),(10,.pointer (some ⟨s.2.2.2.2,0,none⟩))]) (fun s W=>Kp w (Bs++[(s.2.2.2.2,#[.slice none 0 0,.bool false],80)]) (Vs++[⟨Kd.int .u64,72,s.1,x23,fun _=>True⟩]) (Os++[]) W) ?_ (fun J42=>?_)
 ·rintro⟨v31,v32,v33,g34,g35⟩ W K
  try dsimp only at K
  have hH:=HS.out _ _ _ _ K
  refine norm_ (a':=?_) ?_ ?_
  rotate_left
  ·try simp only[putAll,Act.put,kss]
   rfl
  refine two_ (i:=3) (j:=7) (Ni:=some 21) (Nj:=some 9) (bm_ 11 271) (bm_ 11 391) rfl rfl rfl rfl (two_of HT_.out (by kernel_rfl)) (by decide) (by decide) (fun Kc hK=>?_) (fun Kc hK=>?_)
  ·obtain⟨P76,c77,e78⟩:=K.slice 3 (hv hVs rfl)
   subst e78
   refine kgo Tryz.func98 #[.agg #[.slice P76 x23.length c77,.bool z24],.agg #[.slice P13 x7.length c14,.bool z8]] (by rfl) rfl rfl ?_
   refine(whole_number_cut.calls _ _ _ _ x23 z24 _ _ x7 z8 x26 z27 x28 z29 _ (K.V 3 (hv hVs rfl)) (K.C 2 (hv hVs rfl)) (K.le 2 (hv hVs rfl)) A30.out).mono ?_
   rintro e W' ⟨v32,v33,rfl,ho79,ho80,hb⟩
   have K1:=K.addI 1 (fun _=>True) hb ho79 (fun _ h=>h.t)
   replace K:=K.moreI 2 (fun _=>True) K1 ho80 (fun _ h=>h.t)
   clear K1
   clear hb ho79 ho80
   refine⟨_,rfl,hK.out _ _ (HS.out _ _ _ _ K) fun hH=>?_⟩
   refine norm_ (a':=?_) ?_ ?_
   rotate_left
   ·show Act.put _ (some 21) _=_
    simp only[Act.put,kss,i64_w,i32_w]
    rfl
   refine pu_ 4 17 ?_ (bm_ 11 287) rfl rfl (any_of HT_.out (by kernel_rfl)) (fun _ _ _ h=>h) (by rfl) ?_ ?_ ?_ ?_
   rotate_left
   ·intro w'
    go_simp
    with_reducible rfl
   rotate_left
   ·simp only[Act.put,kss,i64_w,i32_w]
    rfl
   refine pu_ 5 22 ?_ (bm_ 11 319) rfl rfl (any_of HT_.out (by kernel_rfl)) (fun _ _ _ h=>h) (by rfl) ?_ ?_ ?_ ?_
   rotate_left
   ·intro w'
    go_simp
    with_reducible rfl
   rotate_left
   ·simp only[Act.put,kss,i64_w,i32_w]
    rfl
   refine pu_ 6 23 ?_ (bm_ 11 383) rfl rfl (any_of HT_.out (by kernel_rfl)) (fun _ _ _ h=>h) (by rfl) ?_ ?_ ?_ ?_
   rotate_left
   ·intro w'
    go_simp
    with_reducible rfl
   rotate_left
   ·simp only[Act.put,kss,i64_w,i32_w]
    rfl
   exact knq (J38 (.slice P76 x23.length c77,v32,v33,g34,g35) _ K)
  exact kbx #[.slice none 0 0,.bool false] 80 9 fun g34 hg W' hx hb=>hK.out _ _ (HS.out _ _ _ _ (K.boxI 0 (lb rfl) hg hx hb)) fun _=>knq (J40 (v31,v32,v33,g34,g35) _ (K.boxI 0 (lb rfl) hg hx hb))
 refine join_ (σ:=Value×Value×Value×Nat×Nat) 7 (bm_ 11 135) (fun s=>[(19,.agg #[s.1,.bool z24]),(9,.pointer (some ⟨s.2.2.2.1,0,none⟩))]) (fun s W=>Kp w (Bs++[(s.2.2.2.1,#[.slice none 0 0,.bool false],80)]) (Vs++[⟨Kd.int .u64,72,s.1,x23,fun _=>True⟩]) (Os++[]) W) ?_ (fun J43=>?_)
 ·rintro⟨v31,v32,v33,g34,g35⟩ W K
  try dsimp only at K
  have hH:=HS.out _ _ _ _ K
  refine norm_ (a':=?_) ?_ ?_
  rotate_left
  ·try simp only[putAll,Act.put,kss]
   rfl
  refine two_ (i:=3) (j:=8) (Ni:=some 21) (Nj:=some 10) (bm_ 11 143) (bm_ 11 391) rfl rfl rfl rfl (two_of HT_.out (by kernel_rfl)) (by decide) (by decide) (fun Kc hK=>?_) (fun Kc hK=>?_)
  ·obtain⟨P81,c82,e83⟩:=K.slice 3 (hv hVs rfl)
   subst e83
   refine kgo Tryz.func98 #[.agg #[.slice P81 x23.length c82,.bool z24],.agg #[.slice P13 x7.length c14,.bool z8]] (by rfl) rfl rfl ?_
   refine(whole_number_cut.calls _ _ _ _ x23 z24 _ _ x7 z8 x26 z27 x28 z29 _ (K.V 3 (hv hVs rfl)) (K.C 2 (hv hVs rfl)) (K.le 2 (hv hVs rfl)) A30.out).mono ?_
   rintro e W' ⟨v32,v33,rfl,ho84,ho85,hb⟩
   have K1:=K.addI 1 (fun _=>True) hb ho84 (fun _ h=>h.t)
   replace K:=K.moreI 2 (fun _=>True) K1 ho85 (fun _ h=>h.t)
   clear K1
   clear hb ho84 ho85
   refine⟨_,rfl,hK.out _ _ (HS.out _ _ _ _ K) fun hH=>?_⟩
   refine norm_ (a':=?_) ?_ ?_
   rotate_left
   ·show Act.put _ (some 21) _=_
    simp only[Act.put,kss,i64_w,i32_w]
    rfl
   refine pu_ 4 17 ?_ (bm_ 11 159) rfl rfl (any_of HT_.out (by kernel_rfl)) (fun _ _ _ h=>h) (by rfl) ?_ ?_ ?_ ?_
   rotate_left
   ·intro w'
    go_simp
    with_reducible rfl
   rotate_left
   ·simp only[Act.put,kss,i64_w,i32_w]
    rfl
   refine pu_ 5 22 ?_ (bm_ 11 191) rfl rfl (any_of HT_.out (by kernel_rfl)) (fun _ _ _ h=>h) (by rfl) ?_ ?_ ?_ ?_
   rotate_left
   ·intro w'
    go_simp
    with_reducible rfl
   rotate_left
   ·simp only[Act.put,kss,i64_w,i32_w]
    rfl
   refine pu_ 6 23 ?_ (bm_ 11 255) rfl rfl (any_of HT_.out (by kernel_rfl)) (fun _ _ _ h=>h) (by rfl) ?_ ?_ ?_ ?_
   rotate_left
   ·intro w'
    go_simp
    with_reducible rfl
   rotate_left
   ·simp only[Act.put,kss,i64_w,i32_w]
    rfl
   exact knq (J39 (.slice P81 x23.length c82,v32,v33,g34,g35) _ K)
  exact kbx #[.slice none 0 0,.bool false] 80 10 fun g35 hg W' hx hb=>hK.out _ _ (HS.out _ _ _ _ (K.boxI 1 (lb rfl) hg hx hb)) fun _=>knq (J40 (v31,v32,v33,g34,g35) _ (K.boxI 1 (lb rfl) hg hx hb))
 obtain⟨v31,v32,v33,g34,g35⟩:Value×Value×Value×Nat×Nat:=((.bool false),(.bool false),(.bool false),0,0)
 refine three_ (i:=1) (j:=7) (k:=8) (Ni:=some 19) (Nj:=some 9) (Nk:=some 10) (bm_ 11 7) (bm_ 11 133) (bm_ 11 261) rfl rfl rfl rfl rfl rfl (three_of HT_.out (by kernel_rfl)) (by decide) (by decide) (by decide) (fun Kc hK=>?_) (fun Kc hK=>?_) (fun Kc hK=>?_)
 ·refine kgo Tryz.func52 #[.agg #[.bool a0_0,.slice A0_1 l0_1.length c0_1]] (by rfl) rfl rfl ?_
  refine(whole_of.calls _ a0_0 _ _ _ l0_1 x23 z24 _ (K.V 0 (hv hVs rfl)) A25.out).mono ?_
  rintro e W' ⟨v31,rfl,ho86,hb⟩
  replace K:=K.addI 0 (fun _=>True) hb ho86 (fun _ h=>h.t)
  clear hb ho86
  refine⟨_,rfl,hK.out _ _ (HS.out _ _ _ _ K) fun hH=>?_⟩
  clear hK Kc
  refine norm_ (a':=?_) ?_ ?_
  rotate_left
  ·show Act.put _ (some 19) _=_
   simp only[Act.put,kss,i64_w,i32_w]
   rfl
  refine three_ (i:=3) (j:=7) (k:=8) (Ni:=some 21) (Nj:=some 9) (Nk:=some 10) (bm_ 11 15) (bm_ 11 135) (bm_ 11 263) rfl rfl rfl rfl rfl rfl (three_of HT_.out (by kernel_rfl)) (by decide) (by decide) (by decide) (fun Kc hK=>?_) (fun Kc hK=>?_) (fun Kc hK=>?_)
  ·obtain⟨P87,c88,e89⟩:=K.slice 3 (hv hVs rfl)
   subst e89
   refine kgo Tryz.func98 #[.agg #[.slice P87 x23.length c88,.bool z24],.agg #[.slice P13 x7.length c14,.bool z8]] (by rfl) rfl rfl ?_
   refine(whole_number_cut.calls _ _ _ _ x23 z24 _ _ x7 z8 x26 z27 x28 z29 _ (K.V 3 (hv hVs rfl)) (K.C 2 (hv hVs rfl)) (K.le 2 (hv hVs rfl)) A30.out).mono ?_
   rintro e W' ⟨v32,v33,rfl,ho90,ho91,hb⟩
   have K1:=K.addI 1 (fun _=>True) hb ho90 (fun _ h=>h.t)
   replace K:=K.moreI 2 (fun _=>True) K1 ho91 (fun _ h=>h.t)
   clear K1
   clear hb ho90 ho91
   refine⟨_,rfl,hK.out _ _ (HS.out _ _ _ _ K) fun hH=>?_⟩
   refine norm_ (a':=?_) ?_ ?_
   rotate_left
   ·show Act.put _ (some 21) _=_
    simp only[Act.put,kss,i64_w,i32_w]
    rfl
   refine pu_ 4 17 ?_ (bm_ 11 31) rfl rfl (any_of HT_.out (by kernel_rfl)) (fun _ _ _ h=>h) (by rfl) ?_ ?_ ?_ ?_
   rotate_left
   ·intro w'
    go_simp
    with_reducible rfl
   rotate_left
   ·simp only[Act.put,kss,i64_w,i32_w]
    rfl
   refine pu_ 5 22 ?_ (bm_ 11 63) rfl rfl (any_of HT_.out (by kernel_rfl)) (fun _ _ _ h=>h) (by rfl) ?_ ?_ ?_ ?_
   rotate_left
   ·intro w'
    go_simp
    with_reducible rfl
   rotate_left
   ·simp only[Act.put,kss,i64_w,i32_w]
    rfl
   refine pu_ 6 23 ?_ (bm_ 11 127) rfl rfl (any_of HT_.out (by kernel_rfl)) (fun _ _ _ h=>h) (by rfl) ?_ ?_ ?_ ?_
   rotate_left
   ·intro w'
    go_simp
    with_reducible rfl
   rotate_left
   ·simp only[Act.put,kss,i64_w,i32_w]
    rfl
   clear hK Kc
   refine two_ (i:=7) (j:=8) (Ni:=some 9) (Nj:=some 10) (bm_ 11 255) (bm_ 11 383) rfl rfl rfl rfl (two_of HT_.out (by kernel_rfl)) (by decide) (by decide) (fun Kc hK=>?_) (fun Kc hK=>?_)
   ·exact kbx #[.slice none 0 0,.bool false] 80 9 fun g34 hg W' hx hb=>hK.out _ _ (HS.out _ _ _ _ (K.boxI 0 (lb rfl) hg hx hb)) fun _=>knq (J39 (.slice P87 x23.length c88,v32,v33,g34,g35) _ (K.boxI 0 (lb rfl) hg hx hb))
   exact kbx #[.slice none 0 0,.bool false] 80 10 fun g35 hg W' hx hb=>hK.out _ _ (HS.out _ _ _ _ (K.boxI 0 (lb rfl) hg hx hb)) fun _=>knq (J38 (.slice P87 x23.length c88,v32,v33,g34,g35) _ (K.boxI 0 (lb rfl) hg hx hb))
  ·exact kbx #[.slice none 0 0,.bool false] 80 9 fun g34 hg W' hx hb=>hK.out _ _ (HS.out _ _ _ _ (K.boxI 0 (lb rfl) hg hx hb)) fun _=>knq (J43 (v31,v32,v33,g34,g35) _ (K.boxI 0 (lb rfl) hg hx hb))
  exact kbx #[.slice none 0 0,.bool false] 80 10 fun g35 hg W' hx hb=>hK.out _ _ (HS.out _ _ _ _ (K.boxI 0 (lb rfl) hg hx hb)) fun _=>knq (J42 (v31,v32,v33,g34,g35) _ (K.boxI 0 (lb rfl) hg hx hb))
 ·refine kbx #[.slice none 0 0,.bool false] 80 9 fun g34 hg W' hx hb=>?_
  replace K:=K.boxI 0 (lb rfl) hg hx hb
  clear hg hx hb
  refine hK.out _ _ (HS.out _ _ _ _ K) fun hH=>?_
  clear hK Kc
  refine norm_ (a':=?_) ?_ ?_
  rotate_left
  ·show Act.put _ (some 9) _=_
   simp only[Act.put,kss,i64_w,i32_w]
   rfl
  refine two_ (i:=1) (j:=8) (Ni:=some 19) (Nj:=some 10) (bm_ 11 135) (bm_ 11 389) rfl rfl rfl rfl (two_of HT_.out (by kernel_rfl)) (by decide) (by decide) (fun Kc hK=>?_) (fun Kc hK=>?_)
  ·refine kgo Tryz.func52 #[.agg #[.bool a0_0,.slice A0_1 l0_1.length c0_1]] (by rfl) rfl rfl ?_
   refine(whole_of.calls _ a0_0 _ _ _ l0_1 x23 z24 _ (K.V 0 (hv hVs rfl)) A25.out).mono ?_
   rintro e W' ⟨v31,rfl,ho92,hb⟩
   replace K:=K.addI 0 (fun _=>True) hb ho92 (fun _ h=>h.t)
   clear hb ho92
   refine⟨_,rfl,hK.out _ _ (HS.out _ _ _ _ K) fun hH=>?_⟩
   exact knq (J43 (v31,v32,v33,g34,g35) _ K)
  exact kbx #[.slice none 0 0,.bool false] 80 10 fun g35 hg W' hx hb=>hK.out _ _ (HS.out _ _ _ _ (K.boxI 1 (lb rfl) hg hx hb)) fun _=>knq (J41 (v31,v32,v33,g34,g35) _ (K.boxI 1 (lb rfl) hg hx hb))
 refine kbx #[.slice none 0 0,.bool false] 80 10 fun g35 hg W' hx hb=>?_
 replace K:=K.boxI 0 (lb rfl) hg hx hb
 clear hg hx hb
 refine hK.out _ _ (HS.out _ _ _ _ K) fun hH=>?_
 clear hK Kc
 refine norm_ (a':=?_) ?_ ?_
 rotate_left
 ·show Act.put _ (some 10) _=_
  simp only[Act.put,kss,i64_w,i32_w]
  rfl
 refine two_ (i:=1) (j:=7) (Ni:=some 19) (Nj:=some 9) (bm_ 11 263) (bm_ 11 389) rfl rfl rfl rfl (two_of HT_.out (by kernel_rfl)) (by decide) (by decide) (fun Kc hK=>?_) (fun Kc hK=>?_)
 ·refine kgo Tryz.func52 #[.agg #[.bool a0_0,.slice A0_1 l0_1.length c0_1]] (by rfl) rfl rfl ?_
  refine(whole_of.calls _ a0_0 _ _ _ l0_1 x23 z24 _ (K.V 0 (hv hVs rfl)) A25.out).mono ?_
  rintro e W' ⟨v31,rfl,ho93,hb⟩
  replace K:=K.addI 0 (fun _=>True) hb ho93 (fun _ h=>h.t)
  clear hb ho93
  refine⟨_,rfl,hK.out _ _ (HS.out _ _ _ _ K) fun hH=>?_⟩
  exact knq (J42 (v31,v32,v33,g34,g35) _ K)
 exact kbx #[.slice none 0 0,.bool false] 80 9 fun g34 hg W' hx hb=>hK.out _ _ (HS.out _ _ _ _ (K.boxI 0 (lb rfl) hg hx hb)) fun _=>knq (J41 (v31,v32,v33,g34,g35) _ (K.boxI 0 (lb rfl) hg hx hb))
end Go.Proofs.YtikencoikigllaaGreatDoor.PRy
namespace Go.Proofs.YtikencoikigllaaGreatDoor.PRy
open Go.RowKit Go.Proofs.YtikencoikigllaaGreatDoorW.PrintWords Go.Proofs.YtikencoikigllaaGreatDoorW.PrintLast Go.Proofs.YtikencoikigllaaGreatDoorW.PrintMore
open Go.Proofs.YtikencoikigllaaGreatDoor.Mine
attribute [local go_sem] max2_int min2_int max_two min_two max_three min_three max_four min_four
def whole_Floor.f (k:Nat) (a0_0:Bool) (l0_1:List Int) (a1_0:Bool) (l1_1:List Int):Option (Bool×List Int×Int):=(whole_rounded.f k a0_0 l0_1 a1_0 l1_1 false).bind fun bt382=>(some (bt382.1,bt382.2.1,bt382.2.2))
theorem whole_Floor.calls (k:Nat) (a0_0:Bool) (A0_1:Option Addr) (c0_1:Nat) (l0_1:List Int) (a1_0:Bool) (A1_1:Option Addr) (c1_1:Nat) (l1_1:List Int) (r1:Bool) (r2:List Int) (r3:Int) (w:World) (hr0_1:Kd.C (Kd.int .u64) w A0_1 l0_1.length l0_1) (hc0_1:l0_1.length≤c0_1) (hr1_1:Kd.C (Kd.int .u64) w A1_1 l1_1.length l1_1) (hc1_1:l1_1.length≤c1_1) (h:whole_Floor.f k a0_0 l0_1 a1_0 l1_1=some (r1,r2,r3)) :
  Calls Tryz.prog 63 #[.agg #[.bool a0_0,.slice A0_1 l0_1.length c0_1],.agg #[.bool a1_0,.slice A1_1 l1_1.length c1_1]] w fun e w'=>∃v1_:Value,e=.returned (.tuple #[.agg #[.bool r1,v1_],.int .i64 r3])∧Kd.R (Kd.int .u64) 72 w' w.heap.size (fun _=>True) v1_ r2∧Below w.heap.size w w':=by
 have hu26:=Tryz.underlying26
 have K:=Kp.refl w
 replace K:=K.parV (Kd.V_mono (ok':=fun _=>True) (Kd.V_mk (e:=72) (base:=0) hc0_1 (Kd.C_F (Kd.heap_int .u64) hr0_1)) (fun _ h=>trivial))
 clear hr0_1 hc0_1
 replace K:=K.parV (Kd.V_mono (ok':=fun _=>True) (Kd.V_mk (e:=72) (base:=0) hc1_1 (Kd.C_F (Kd.heap_int .u64) hr1_1)) (fun _ h=>trivial))
 clear hr1_1 hc1_1
 try simp only[klv]at K
 rw[whole_Floor.f]at h
 replace h:=bindA h
 obtain⟨⟨z7,x8,n9⟩,A10,h⟩:=h
 dsimp only at h
 simp only[Option.some.injEq,Prod.mk.injEq]at h
 obtain⟨rfl,rfl,rfl⟩:=h
 go_enter Tryz.func63,Tryz.ntmps63
 go_wp2_with (first|(refine gd 2 rfl ?_;refine kbk 2 #[.bool a0_0,.slice A0_1 l0_1.length c0_1] 26 K.u ?_;clear K;intro g1 W2 K)|(refine gd 3 rfl ?_;refine kbk 3 #[.bool a1_0,.slice A1_1 l1_1.length c1_1] 26 K.u ?_;clear K;intro g3 W4 K)|(refine gd 4 rfl ?_;refine kbk 4 #[.bool false,.slice none 0 0] 26 K.u ?_;clear K;intro g5 W6 K;obtain⟨ua0,ub0⟩:=K.cell2 0 rfl;obtain⟨ua1,ub1⟩:=K.cell2 1 rfl)|(refine gd 8 rfl ?_;clear ua0 ub0 ua1 ub1;refine kgl (some 8) rfl rfl Tryz.func129 #[.agg #[.bool a0_0,.slice A0_1 l0_1.length c0_1],.agg #[.bool a1_0,.slice A1_1 l1_1.length c1_1],.bool false] rfl ?_;refine(whole_rounded.calls _ a0_0 _ _ l0_1 a1_0 _ _ l1_1 false z7 x8 n9 _ (K.C 0 rfl) (K.le 0 rfl) (K.C 1 rfl) (K.le 1 rfl) A10.out).mono ?_;rintro e W13 ⟨v11,rfl,ho12,hb⟩;refine⟨_,rfl,?_⟩;replace K:=K.u.addRE hb ho12;clear hb ho12;obtain⟨P14,c15,e16⟩:=K.slice 2 rfl;subst e16)|(refine gs 26 4 9 rfl ?_;refine ks2 2 (.bool z7) (.slice P14 x8.length c15) K.u rfl ?_;clear K;intro W17 K;simp only[kls,klv]at K))
 refine bodyPost_ret (results_list (rs:=[.cell 4 26,.tmp 5]) rfl (by simp) (.cell g5 26 #[.bool z7,.slice P14 x8.length c15] (0,0) _ rfl (K.u.heap 2 rfl) Tryz.underlying26 rfl (by kernel_rfl) (.tmp .nil))) rfl ?_
 exact⟨_,rfl,K.u.R 0 rfl,K.u.below⟩
def ratio_Floor.f (k:Nat) (a0_0:Bool) (l0_1:List Int) (l0_2:List Int):Option (Bool×List Int×Int):=(ratio_made.f k a0_0 l0_1 l0_2).bind fun bt389=>(if bt389.2.2.2.2=0 then((whole_Floor.f k bt389.1 bt389.2.1 bt389.2.2.1 bt389.2.2.2.1).bind fun bt399=>(some (bt399.1,bt399.2.1,0))) else(some (false,([]:List Int),bt389.2.2.2.2)))
theorem ratio_Floor.calls (k:Nat) (a0_0:Bool) (A0_1:Option Addr) (c0_1:Nat) (l0_1:List Int) (A0_2:Option Addr) (c0_2:Nat) (l0_2:List Int) (r1:Bool) (r2:List Int) (r3:Int) (w:World) (hr0_1:Kd.C (Kd.int .u64) w A0_1 l0_1.length l0_1) (hc0_1:l0_1.length≤c0_1) (hr0_2:Kd.C (Kd.int .u64) w A0_2 l0_2.length l0_2) (hc0_2:l0_2.length≤c0_2) (h:ratio_Floor.f k a0_0 l0_1 l0_2=some (r1,r2,r3)) :
  Calls Tryz.prog 17 #[.agg #[.bool a0_0,.slice A0_1 l0_1.length c0_1,.slice A0_2 l0_2.length c0_2]] w fun e w'=>∃v1_:Value,e=.returned (.tuple #[.agg #[.bool r1,v1_],.int .i64 r3])∧Kd.R (Kd.int .u64) 72 w' w.heap.size (fun _=>True) v1_ r2∧Below w.heap.size w w':=by
 have hu26:=Tryz.underlying26
 have hu39:=Tryz.underlying39
 have hu101:=Tryz.underlying101
 have hu103:=Tryz.underlying103
 have K:=Kp.refl w
 replace K:=K.parV (Kd.V_mono (ok':=fun _=>True) (Kd.V_mk (e:=72) (base:=0) hc0_1 (Kd.C_F (Kd.heap_int .u64) hr0_1)) (fun _ h=>trivial))
 clear hr0_1 hc0_1
 replace K:=K.parV (Kd.V_mono (ok':=fun _=>True) (Kd.V_mk (e:=72) (base:=0) hc0_2 (Kd.C_F (Kd.heap_int .u64) hr0_2)) (fun _ h=>trivial))
 clear hr0_2 hc0_2
 try simp only[klv]at K
 rw[ratio_Floor.f]at h
 replace h:=bindA h
 obtain⟨⟨z5,x6,z7,x8,n9⟩,A10,h⟩:=h
 dsimp only at h
 by_cases c_0:n9=0
 ·rw[if_pos c_0]at h
  have c_0b0:(n9==0)=true:=beq_iff_eq.mpr c_0
  have c_0b1:(n9 != 0)=false:=bne_eq_false_iff_eq.mpr c_0
  clear c_0
  replace h:=bindA h
  obtain⟨⟨z26,x27,n28⟩,A29,h⟩:=h
  dsimp only at h
  simp only[Option.some.injEq,Prod.mk.injEq]at h
  obtain⟨rfl,rfl,rfl⟩:=h
  go_enter Tryz.func17,Tryz.ntmps17
  go_wp2_with (first|(refine gd 1 rfl ?_;refine kbk 1 #[.bool a0_0,.slice A0_1 l0_1.length c0_1,.slice A0_2 l0_2.length c0_2] 39 K.u ?_;clear K;intro g1 W2 K)|(refine gd 2 rfl ?_;refine kbk 2 #[.bool false,.slice none 0 0] 26 K.u ?_;clear K;intro g3 W4 K;have ua0:=K.cell 0 rfl 0 rfl;have ub0:=K.cell 0 rfl 1 rfl;have uc0:=K.cell 0 rfl 2 rfl)|(refine gd 10 rfl ?_;clear ua0 ub0 uc0;refine kgl (some 10) rfl rfl Tryz.func62 #[.agg #[.bool a0_0,.slice A0_1 l0_1.length c0_1,.slice A0_2 l0_2.length c0_2]] rfl ?_;refine(ratio_made.calls _ a0_0 _ _ _ l0_1 _ _ _ l0_2 z5 x6 z7 x8 n9 _ (K.V 0 rfl) (K.V 1 rfl) A10.out).mono ?_;rintro e W15 ⟨v11,v12,rfl,ho13,ho14,hb⟩;refine⟨_,rfl,?_⟩;have K1:=K.u.add (fun _=>True) hb ho13 (fun _ h=>h.elim (fun h=>h.t) fun h=>h.t);replace K:=K.u.more (fun _=>True) K1 ho14 (fun _ h=>h.elim (fun h=>h.t) fun h=>h.t);clear K1;clear hb ho13 ho14;obtain⟨P16,c17,e18⟩:=K.slice 2 rfl;subst e18;obtain⟨P19,c20,e21⟩:=K.slice 3 rfl;subst e21)|(refine gd 4 rfl ?_;refine kbk 4 #[.bool false,.slice none 0 0,.bool false,.slice none 0 0] 103 K.u ?_;clear K;intro g22 W23 K)|(refine gs 103 4 11 rfl ?_;refine kstN 2 0 [.bool z5,.slice P16 x6.length c17,.bool z7,.slice P19 x8.length c20] K.u rfl ?q25 ?_;(case q25=>intro hc hf;have c0:=hc 0 _ rfl;have f0:=hf 0;have c1:=hc 1 _ rfl;have f1:=hf 1;have c2:=hc 2 _ rfl;have f2:=hf 2;have c3:=hc 3 _ rfl;have f3:=hf 3;clear hc hf;first|(go_simp;done)|(go_simp;rfl));clear K;intro W24 K;simp only[kls,klv,kpl,kss]at K;have ua2:=K.cell 2 rfl 0 rfl;have ub2:=K.cell 2 rfl 1 rfl;have uc2:=K.cell 2 rfl 2 rfl;have ud2:=K.cell 2 rfl 3 rfl)|(refine gd 24 rfl ?_;clear ua2 ub2 uc2 ud2;refine kgl (some 24) rfl rfl Tryz.func63 #[.agg #[.bool z5,.slice P16 x6.length c17],.agg #[.bool z7,.slice P19 x8.length c20]] rfl ?_;refine(whole_Floor.calls _ z5 _ _ x6 z7 _ _ x8 z26 x27 n28 _ (K.C 2 rfl) (K.le 2 rfl) (K.C 3 rfl) (K.le 3 rfl) A29.out).mono ?_;rintro e W32 ⟨v30,rfl,ho31,hb⟩;refine⟨_,rfl,?_⟩;replace K:=K.u.addRE hb ho31;clear hb ho31;obtain⟨P33,c34,e35⟩:=K.slice 4 rfl;subst e35)|(refine gd 6 rfl ?_;refine kbk 6 #[.bool false,.slice none 0 0] 26 K.u ?_;clear K;intro g36 W37 K)|(refine gs 26 6 25 rfl ?_;refine ks2 3 (.bool z26) (.slice P33 x27.length c34) K.u rfl ?_;clear K;intro W38 K;simp only[kls,klv]at K;obtain⟨ua3,ub3⟩:=K.cell2 3 rfl)|(refine gs 26 2 27 rfl ?_;clear ua3 ub3;refine ks2 1 (.bool z26) (.slice P33 x27.length c34) K.u rfl ?_;clear K;intro W40 K;simp only[kls,klv]at K))
  refine bodyPost_ret (results_list (rs:=[.cell 2 26,.tmp 3]) rfl (by simp) (.cell g3 26 #[.bool z26,.slice P33 x27.length c34] (0,0) _ rfl (K.u.heap 1 rfl) Tryz.underlying26 rfl (by kernel_rfl) (.tmp .nil))) rfl ?_
  exact⟨_,rfl,K.u.R 0 rfl,K.u.below⟩
 rw[if_neg c_0]at h
 have c_0b0:(n9==0)=false:=beq_eq_false_iff_ne.mpr c_0
 have c_0b1:(n9 != 0)=true:=bne_iff_ne.mpr c_0
 clear c_0
 simp only[Option.some.injEq,Prod.mk.injEq]at h
 obtain⟨rfl,rfl,rfl⟩:=h
 go_enter Tryz.func17,Tryz.ntmps17
 go_wp2_with (first|(refine gd 1 rfl ?_;refine kbk 1 #[.bool a0_0,.slice A0_1 l0_1.length c0_1,.slice A0_2 l0_2.length c0_2] 39 K.u ?_;clear K;intro g1 W2 K)|(refine gd 2 rfl ?_;refine kbk 2 #[.bool false,.slice none 0 0] 26 K.u ?_;clear K;intro g3 W4 K;have ua0:=K.cell 0 rfl 0 rfl;have ub0:=K.cell 0 rfl 1 rfl;have uc0:=K.cell 0 rfl 2 rfl)|(refine gd 10 rfl ?_;clear ua0 ub0 uc0;refine kgl (some 10) rfl rfl Tryz.func62 #[.agg #[.bool a0_0,.slice A0_1 l0_1.length c0_1,.slice A0_2 l0_2.length c0_2]] rfl ?_;refine(ratio_made.calls _ a0_0 _ _ _ l0_1 _ _ _ l0_2 z5 x6 z7 x8 n9 _ (K.V 0 rfl) (K.V 1 rfl) A10.out).mono ?_;rintro e W15 ⟨v11,v12,rfl,ho13,ho14,hb⟩;refine⟨_,rfl,?_⟩;have K1:=K.u.add (fun _=>True) hb ho13 (fun _ h=>h.elim (fun h=>h.t) fun h=>h.t);replace K:=K.u.more (fun _=>True) K1 ho14 (fun _ h=>h.elim (fun h=>h.t) fun h=>h.t);clear K1;clear hb ho13 ho14;obtain⟨P16,c17,e18⟩:=K.slice 2 rfl;subst e18;obtain⟨P19,c20,e21⟩:=K.slice 3 rfl;subst e21)|(refine gd 4 rfl ?_;refine kbk 4 #[.bool false,.slice none 0 0,.bool false,.slice none 0 0] 103 K.u ?_;clear K;intro g22 W23 K)|(refine gs 103 4 11 rfl ?_;refine kstN 2 0 [.bool z5,.slice P16 x6.length c17,.bool z7,.slice P19 x8.length c20] K.u rfl ?q25 ?_;(case q25=>intro hc hf;have c0:=hc 0 _ rfl;have f0:=hf 0;have c1:=hc 1 _ rfl;have f1:=hf 1;have c2:=hc 2 _ rfl;have f2:=hf 2;have c3:=hc 3 _ rfl;have f3:=hf 3;clear hc hf;first|(go_simp;done)|(go_simp;rfl));clear K;intro W24 K;simp only[kls,klv,kpl,kss]at K)|(refine gs 26 2 15 rfl ?_;refine ks2 1 (.bool false) (.slice none 0 0) K.u rfl ?_;clear K;intro W26 K;simp only[kls,klv]at K))
 refine bodyPost_ret (results_list (rs:=[.cell 2 26,.tmp 3]) rfl (by simp) (.cell g3 26 #[.bool false,.slice none 0 0] (0,0) _ rfl (K.u.heap 1 rfl) Tryz.underlying26 rfl (by kernel_rfl) (.tmp .nil))) rfl ?_
 exact⟨_,rfl,Kd.R_nil _ _ _ _ _,K.u.below⟩
def tribunalref02_trim.l0:Nat→List Int→Int→Option (List Int)
 | 0,_,_=>none
 | k+1,x0,x3=>if x3>0 then(if 0≤(wrap64 (x3-1)) then(if(wrap64 (x3-1))<(x0.length:Int) then(if(rd x0 (wrap64 (x3-1)))=0 then(tribunalref02_trim.l0 k x0 (wrap64 (x3-1))) else(if 0≤x3 then(if x3≤(x0.length:Int) then(some (x0.take (x3:Int).toNat)) else(none)) else(none))) else(none)) else(none)) else(if 0≤x3 then(if x3≤(x0.length:Int) then(some (x0.take (x3:Int).toNat)) else(none)) else(none))
def tribunalref02_trim.f (k:Nat) (l0:List Int):Option (List Int):=tribunalref02_trim.l0 k l0 (l0.length:Int)
theorem tribunalref02_trim.mono_l:∀k,(∀y0 y1,LeO (tribunalref02_trim.l0 k y0 y1) (tribunalref02_trim.l0 (k+1) y0 y1))
 | 0=>fun _ _ r h=>by simp[tribunalref02_trim.l0]at h
 | k+1=>by
  have ih0:=tribunalref02_trim.mono_l k
  intro y0 y1
  unfold tribunalref02_trim.l0
  repeat' first
  | (with_reducible first|exact ih0 _ _|exact LeO.refl _|exact LeO.none _|refine LeO.ite ?_ ?_|refine LeO.bind ?_ (fun _=>?_))
  | exact ih0 _ _
  | exact LeO.none _
  | refine LeO.ite ?_ ?_
  | refine LeO.bind ?_ (fun _=>?_)
theorem tribunalref02_trim.mono:∀a0 k,LeO (tribunalref02_trim.f k a0) (tribunalref02_trim.f (k+1) a0):=by
 intro a0 k
 have ih0:=tribunalref02_trim.mono_l k
 unfold tribunalref02_trim.f
 repeat' first
   | (with_reducible first|exact ih0 _ _|exact LeO.refl _|exact LeO.none _|refine LeO.ite ?_ ?_|refine LeO.bind ?_ (fun _=>?_))
   | exact ih0 _ _
   | exact LeO.none _
   | refine LeO.ite ?_ ?_
   | refine LeO.bind ?_ (fun _=>?_)
theorem tribunalref02_trim.calls (k:Nat) (P0_:Nat→Prop) (A0:Option Addr) (c0:Nat) (l0:List Int) (r:List Int) (w:World) (hs0:Kd.V (Kd.int .u16) 115 w w.heap.size (fun k_=>P0_ k_) (.slice A0 l0.length c0) l0) (h:tribunalref02_trim.f k l0=some r) :
  Calls Tryz.prog 118 #[.slice A0 l0.length c0] w fun e w'=>∃v0_:Value,e=.returned (v0_)∧Kd.V (Kd.int .u16) 115 w' w.heap.size (fun k_=>(P0_ k_∨w.heap.size≤k_)) v0_ r∧Below w.heap.size w w':=by
 have HO0:=Aside0.mk (show Kd.V (Kd.int .u16) 115 w w.heap.size (fun k_=>(P0_ k_∨w.heap.size≤k_)) (.slice A0 l0.length c0) l0 from Kd.V_mono hs0 (fun k_ hk=>.inl hk))
 have HB:=Aside0.mk (Below.refl w.heap.size w)
 have H:(tribunalref02_trim.l0 k l0 (l0.length:Int))=some r:=h
 clear h
 have H':=Aside0.mk H
 clear H
 go_enter Tryz.func118,Tryz.ntmps118
 go_wp2
 go_loopg [3] k (fun kq v3 w'=>∃(x3_1:Int),v3=.int .i64 x3_1∧Aside0 (tribunalref02_trim.l0 kq l0 x3_1=some r)∧Aside0 (kq≤k)∧Aside0 (Kd.V (Kd.int .u16) 115 w' w.heap.size (fun k_=>(P0_ k_∨w.heap.size≤k_)) (.slice A0 l0.length c0) l0)∧Aside0 (Below w.heap.size w w'))
 case atStart=>exact⟨((l0.length:Int)),(by first|rfl|(simp;done)|(simp[*];done)),H',⟨Nat.le_refl _⟩,⟨kvu HO0.out⟩,⟨khu HB.out⟩⟩
 case round=>
  clear H'
  try clear c1
  obtain⟨x3_1,rfl,HA,HK1,HO_0,HB⟩:=hrel
  cases gk with
  | zero=>exact absurd HA.out (by simp[tribunalref02_trim.l0])
  | succ k1=>
   have H:=HA.out
   clear HA
   simp only[tribunalref02_trim.l0]at H
   by_cases c2:x3_1>0
   ·rw [if_pos c2]at H
    have c2b0:decide (0<x3_1)=true:=decide_eq_true c2
    clear c2
    obtain⟨ji3,hji3⟩:∃j_:Int,(wrap64 (x3_1-1))=j_:=⟨_,rfl⟩
    replace H:(if 0≤(ji3) then(if(ji3)<(l0.length:Int) then(if(rd l0 (ji3))=0 then(tribunalref02_trim.l0 k1 l0 ji3) else(if 0≤x3_1 then(if x3_1≤(l0.length:Int) then(some (l0.take (x3_1:Int).toNat)) else(none)) else(none))) else(none)) else(none))=some r:=by first|(rw[hji3]at H;exact H)|(simp only[hji3]at H ⊢;exact H)
    have hji3w:(IntKind.i64.wrap (x3_1-1))=ji3:=(i64_w _).trans hji3
    by_cases c4:0≤(ji3)
    ·rw [if_pos c4]at H
     have c4b0:decide (0≤(ji3))=true:=decide_eq_true c4
     clear c4
     by_cases c5:(ji3)<(l0.length:Int)
     ·rw[if_pos c5]at H
      have c5b0:decide ((ji3)<(l0.length:Int))=true:=decide_eq_true c5
      clear c5
      by_cases c6:(rd l0 (ji3))=0
      ·rw[if_pos c6]at H
       have c6b0:((rd l0 (ji3))==0)=true:=beq_iff_eq.mpr c6
       have c6b1:((rd l0 (ji3)) != 0)=false:=bne_eq_false_iff_eq.mpr c6
       clear c6
       have H':=Aside0.mk H
       clear H
       have p405:0≤((ji3):Int):=of_decide_eq_true ‹_›
       have q405:(ji3)<(l0.length:Int):=of_decide_eq_true ‹_›
       obtain⟨ad405,e405,hx405_0⟩:=Kd.at_int (Kd.V_reads' HO_0.out).2.2 (ji3) p405 q405
       cases e405
       replace p405:=eq_true p405
       replace q405:=eq_true q405
       go_wp2
       go_roundg k1
       case measure=>have:=HK1.out;omega
       case rel=>exact⟨(ji3),(by first|rfl|(simp;done)|(simp only[←hji3]<;>(first|rfl|simp))|(simp[*];done)),H',⟨by have:=HK1.out;omega⟩,⟨kvu HO_0.out⟩,⟨khu HB.out⟩⟩
      rw[if_neg c6]at H
      have c6b0:((rd l0 (ji3))==0)=false:=beq_eq_false_iff_ne.mpr c6
      have c6b1:((rd l0 (ji3)) != 0)=true:=bne_iff_ne.mpr c6
      by_cases c7:0≤x3_1
      ·rw[if_pos c7]at H
       have c7b0:=eq_true c7
       have c7b1:decide (0≤x3_1)=true:=decide_eq_true c7
       clear c7
       by_cases c8:x3_1≤(l0.length:Int)
       ·rw[if_pos c8]at H
        have c8b0:=eq_true c8
        have c8b1:decide (x3_1≤(l0.length:Int))=true:=decide_eq_true c8
        clear c8
        obtain⟨y406,hy406⟩:∃y_:List Int,y_=(l0.take (x3_1:Int).toNat):=⟨_,rfl⟩
        replace H:(some y406)=some r:=by first|(rw[hy406];with_reducible exact H)|(have H2_:=(Option.bind_some _ _).symm.trans H;rw[hy406];with_reducible exact H2_)|(have H2_:=(Option.bind_some _ _).symm.trans H;with_reducible exact H2_)|with_reducible exact H|(rw[hy406];exact H)|exact H
        have Ny406:=Aside0.mk hy406
        clear hy406
        obtain rfl:=Option.some.inj H
        have p405:0≤((ji3):Int):=of_decide_eq_true ‹_›
        have q405:(ji3)<(l0.length:Int):=of_decide_eq_true ‹_›
        obtain⟨ad405,e405,hx405_0⟩:=Kd.at_int (Kd.V_reads' HO_0.out).2.2 (ji3) p405 q405
        cases e405
        replace p405:=eq_true p405
        replace q405:=eq_true q405
        have q9:(x3_1:Int)≤((l0.length:Int):Int):=of_decide_eq_true ‹_›
        obtain⟨i09,hi09,_,hsz9,_⟩:=info_parts info115
        have hroom9:l0.length≤c0:=(Kd.V_reads' HO_0.out).2.1
        have hC9:Kd.F (Kd.int .u16) _ _ (some ad405) l0.length l0:=(Kd.V_at (base:=w.heap.size) HO_0.out).2.2
        have hcut9:=cut_to (P:=Tryz.prog) 83 115 .i64 Tryz.underlying83 hi09 (some ad405) l0.length c0 x3_1 (of_decide_eq_true ‹_›) q9 hroom9
        have hr9:=Kd.F_take (m:=(x3_1:Int).toNat) hC9 (by omega)
        have hy9:y406.length=(x3_1:Int).toNat:=(by rw[Ny406.out,List.length_take];omega)
        rw[←Ny406.out]at hr9
        rw[←hy9]at hcut9
        have HO410:=Aside0.mk (show Kd.V (Kd.int .u16) 115 _ w.heap.size _ (.slice (some ad405) y406.length c0) y406 from Kd.V_mk (by omega) hr9)
        have HC410:=Aside0.mk (show y406.length≤c0 from by omega)
        clear hr9 hC9 hroom9 hi09 hsz9
        have KY9:=Aside0.mk hy9
        clear hy9
        replace q9:=eq_true q9
        go_wp2
        go_ret
        exact⟨_,by first|rfl|(simp[errW_none,errW_some]<;>rfl)|(simp only[←hji3];first|rfl|(simp[errW_none,errW_some]<;>rfl))|(simp[*,errW_none,errW_some]<;>rfl),kvu HO410.out,khu HB.out⟩
       rw[if_neg c8]at H
       exact absurd H (by simp)
      rw[if_neg c7]at H
      exact absurd H (by simp)
     rw[if_neg c5]at H
     exact absurd H (by simp)
    rw[if_neg c4]at H
    exact absurd H (by simp)
   rw[if_neg c2]at H
   have c2b0:decide (0<x3_1)=false:=decide_eq_false c2
   clear c2
   by_cases c10:0≤x3_1
   ·rw[if_pos c10]at H
    have c10b0:=eq_true c10
    have c10b1:decide (0≤x3_1)=true:=decide_eq_true c10
    clear c10
    by_cases c11:x3_1≤(l0.length:Int)
    ·rw[if_pos c11]at H
     have c11b0:=eq_true c11
     have c11b1:decide (x3_1≤(l0.length:Int))=true:=decide_eq_true c11
     clear c11
     obtain⟨y411,hy411⟩:∃y_:List Int,y_=(l0.take (x3_1:Int).toNat):=⟨_,rfl⟩
     replace H:(some y411)=some r:=by first|(rw[hy411];with_reducible exact H)|(have H2_:=(Option.bind_some _ _).symm.trans H;rw[hy411];with_reducible exact H2_)|(have H2_:=(Option.bind_some _ _).symm.trans H;with_reducible exact H2_)|with_reducible exact H|(rw[hy411];exact H)|exact H
     have Ny411:=Aside0.mk hy411
     clear hy411
     obtain rfl:=Option.some.inj H
     have q12:(x3_1:Int)≤((l0.length:Int):Int):=of_decide_eq_true ‹_›
     obtain⟨i012,hi012,_,hsz12,_⟩:=info_parts info115
     have hroom12:l0.length≤c0:=(Kd.V_reads' HO_0.out).2.1
     have hC12:Kd.F (Kd.int .u16) _ _ A0 l0.length l0:=(Kd.V_at (base:=w.heap.size) HO_0.out).2.2
     have hcut12:=cut_to (P:=Tryz.prog) 83 115 .i64 Tryz.underlying83 hi012 A0 l0.length c0 x3_1 (of_decide_eq_true ‹_›) q12 hroom12
     have hr12:=Kd.F_take (m:=(x3_1:Int).toNat) hC12 (by omega)
     have hy12:y411.length=(x3_1:Int).toNat:=(by rw[Ny411.out,List.length_take];omega)
     rw[←Ny411.out]at hr12
     rw[←hy12]at hcut12
     have HO415:=Aside0.mk (show Kd.V (Kd.int .u16) 115 _ w.heap.size _ (.slice A0 y411.length c0) y411 from Kd.V_mk (by omega) hr12)
     have HC415:=Aside0.mk (show y411.length≤c0 from by omega)
     clear hr12 hC12 hroom12 hi012 hsz12
     have KY12:=Aside0.mk hy12
     clear hy12
     replace q12:=eq_true q12
     go_wp2
     go_ret
     exact⟨_,by first|rfl|(simp[*,errW_none,errW_some]<;>rfl),kvu HO415.out,khu HB.out⟩
    rw[if_neg c11]at H
    exact absurd H (by simp)
   rw[if_neg c10]at H
   exact absurd H (by simp)
def tribunalref02_Make.f (k:Nat) (a0:Bool) (l1:List Int):Option (Bool×List Int):=(tribunalref02_trim.f k l1).bind fun t417=>(if a0=true then(some (decide (0<t417.length),t417)) else(some (false,t417)))
theorem tribunalref02_Make.calls (k:Nat) (a0:Bool) (P1_:Nat→Prop) (A1:Option Addr) (c1:Nat) (l1:List Int) (r1:Bool) (r2:List Int) (w:World) (hs1:Kd.V (Kd.int .u16) 115 w w.heap.size (fun k_=>P1_ k_) (.slice A1 l1.length c1) l1) (h:tribunalref02_Make.f k a0 l1=some (r1,r2)) :
  Calls Tryz.prog 51 #[.bool a0,.slice A1 l1.length c1] w fun e w'=>∃v1_:Value,e=.returned (.agg #[.bool r1,v1_])∧Kd.V (Kd.int .u16) 115 w' w.heap.size (fun k_=>(P1_ k_∨w.heap.size≤k_)) v1_ r2∧Below w.heap.size w w':=by
 have hu85:=Tryz.underlying85
 have HO1:=Aside0.mk (show Kd.V (Kd.int .u16) 115 w w.heap.size (fun k_=>(P1_ k_∨w.heap.size≤k_)) (.slice A1 l1.length c1) l1 from Kd.V_mono hs1 (fun k_ hk=>.inl hk))
 have HB:=Aside0.mk (Below.refl w.heap.size w)
 have H:((tribunalref02_trim.f k l1).bind fun t417=>(if a0=true then(some (decide (0<t417.length),t417)) else(some (false,t417))))=some (r1,r2):=h
 clear h
 replace H:=Option.bind_eq_some_iff.mp H
 obtain⟨t417,A30,H⟩:=H
 replace H:(if a0=true then(some (decide (0<t417.length),t417)) else(some (false,t417)))=some (r1,r2):=H
 have A3:=Aside0.mk A30
 clear A30
 by_cases c4:a0=true
 ·subst c4
  have H1:(some (decide (0<t417.length),t417))=some (r1,r2):=by rw[if_pos rfl]at H;exact H
  clear H
  have H:=H1
  clear H1
  simp only[Option.some.injEq,Prod.mk.injEq]at H
  obtain⟨rfl,rfl⟩:=H
  go_enter Tryz.func51,Tryz.ntmps51
  go_wp2_with (first|(refine gd 4 rfl ?_;(try(refine gate_guard (by rfl) ?_;dsimp only));refine kbe 4 #[.bool false,.slice none 0 0] 85 ?_;intro gb416 hg w5 hbox hb;replace HO1:=Aside0.mk (Kd.V_below (Kd.V_elderB (kvu HO1.out) gb416 (Nat.le_of_eq hg.symm)) hb);have BK416:=Aside0.mk (hbox);have GW416:=kbz hg HB;have GE416:=kbz hg HB;replace HB:=kbs HB hb;clear hb hbox hg)|((with_reducible refine gate_callee (f:=118) rfl ?_);refine kgl (some 6) rfl rfl Tryz.func118 #[.slice A1 l1.length c1] rfl ?_;(with_reducible refine(tribunalref02_trim.calls k (fun k_=>((P1_ k_∨w.heap.size≤k_)∧k_≠gb416)) _ _ l1 t417 _ ?side1 A3.out).mono ?_);(case side1=>exact HO1.out);rintro e w6 ⟨v418,rfl,ho0,hb⟩;refine⟨_,rfl,?_⟩;replace HO1:=kvb HO1 hb;have HO419:=Aside0.mk (Kd.V_lower (Kd.V_mono (ok':=fun k_=>(P1_ k_∨w.heap.size≤k_)∧k_≠gb416) ho0 (fun k_ hk_=>⟨Or.elim hk_ (fun hs_=>hs_.1) (fun hn_=>(.inr (Nat.le_trans (below_size (khu HB.out)) hn_))),Or.elim hk_ (fun hs_=>hs_.2) (kfb BK416)⟩)) (below_size (khu HB.out)));replace BK416:=kbb BK416 hb;replace HB:=kbs HB hb;(try clear hb);(try clear hb2);(try clear hk);(try clear hi);(try clear ho0);obtain⟨Ao7,co7,eo7⟩:=Kd.V_slice HO419.out;subst eo7;have hcz8_0:w6.cell? ⟨gb416,0,none⟩=some (.bool false):=(blk_cell BK416.out 0).trans rfl;have hcz8_1:w6.cell? ⟨gb416,1,none⟩=some (.slice none 0 0):=(blk_cell BK416.out 1).trans rfl;have hfz8_0:=blk_frozen BK416.out 0;have hfz8_1:=blk_frozen BK416.out 1))
  refine bodyPost_ret (results_cell_row rfl _ _ gb416 85 #[.bool (decide (0<t417.length)),.slice Ao7 t417.length co7] (0,0) _ rfl (kpu #[.bool (decide (0<t417.length)),.slice none 0 0] 1 (kpu #[.bool false,.slice none 0 0] 0 (kbu BK416.out))) Tryz.underlying85 rfl (by kernel_rfl)) rfl ?_
  exact⟨_,by first|rfl|(simp[*,errW_none,errW_some]<;>rfl),by(with_reducible repeat (first|apply Kd.V_alloc|apply Kd.V_drewN|apply Kd.V_drew));exact Kd.V_mono (Kd.V_far (p:=⟨gb416,1,none⟩) (Kd.V_far (p:=⟨gb416,0,none⟩) (Kd.V_mono HO419.out (fun k_ hk=>(⟨hk,hk.2⟩:_∧k_≠gb416))) (fun _ hk=>hk.2) (.bool (decide (0<t417.length)))) (fun _ hk=>hk.2) (.slice Ao7 t417.length co7)) (fun _ hk=>hk.1.1),by repeat (first|(with_reducible first|exact HB.out|apply below_alloc|apply pw_below_drewN|apply below_drew1|refine below_set ?_ GE416.out)|exact HB.out)⟩
 replace c4:=Bool.eq_false_iff.mpr c4
 subst c4
 have H1:(some (false,t417))=some (r1,r2):=by rw[if_neg (show ¬(false=true) by decide)]at H;exact H
 clear H
 have H:=H1
 clear H1
 simp only[Option.some.injEq,Prod.mk.injEq]at H
 obtain⟨rfl,rfl⟩:=H
 go_enter Tryz.func51,Tryz.ntmps51
 go_wp2_with (first|(refine gd 4 rfl ?_;(try(refine gate_guard (by rfl) ?_;dsimp only));refine kbe 4 #[.bool false,.slice none 0 0] 85 ?_;intro gb416 hg w9 hbox hb;replace HO1:=Aside0.mk (Kd.V_below (Kd.V_elderB (kvu HO1.out) gb416 (Nat.le_of_eq hg.symm)) hb);have BK416:=Aside0.mk (hbox);have GW416:=kbz hg HB;have GE416:=kbz hg HB;replace HB:=kbs HB hb;clear hb hbox hg)|((with_reducible refine gate_callee (f:=118) rfl ?_);refine kgl (some 6) rfl rfl Tryz.func118 #[.slice A1 l1.length c1] rfl ?_;(with_reducible refine(tribunalref02_trim.calls k (fun k_=>((P1_ k_∨w.heap.size≤k_)∧k_≠gb416)) _ _ l1 t417 _ ?side1 A3.out).mono ?_);(case side1=>exact HO1.out);rintro e w10 ⟨v418,rfl,ho0,hb⟩;refine⟨_,rfl,?_⟩;replace HO1:=kvb HO1 hb;have HO419:=Aside0.mk (Kd.V_lower (Kd.V_mono (ok':=fun k_=>(P1_ k_∨w.heap.size≤k_)∧k_≠gb416) ho0 (fun k_ hk_=>⟨Or.elim hk_ (fun hs_=>hs_.1) (fun hn_=>(.inr (Nat.le_trans (below_size (khu HB.out)) hn_))),Or.elim hk_ (fun hs_=>hs_.2) (kfb BK416)⟩)) (below_size (khu HB.out)));replace BK416:=kbb BK416 hb;replace HB:=kbs HB hb;(try clear hb);(try clear hb2);(try clear hk);(try clear hi);(try clear ho0);obtain⟨Ao11,co11,eo11⟩:=Kd.V_slice HO419.out;subst eo11;have hcz12_0:w10.cell? ⟨gb416,0,none⟩=some (.bool false):=(blk_cell BK416.out 0).trans rfl;have hcz12_1:w10.cell? ⟨gb416,1,none⟩=some (.slice none 0 0):=(blk_cell BK416.out 1).trans rfl;have hfz12_0:=blk_frozen BK416.out 0;have hfz12_1:=blk_frozen BK416.out 1))
 refine bodyPost_ret (results_cell_row rfl _ _ gb416 85 #[.bool false,.slice Ao11 t417.length co11] (0,0) _ rfl (kpu #[.bool false,.slice none 0 0] 1 (kpu #[.bool false,.slice none 0 0] 0 (kbu BK416.out))) Tryz.underlying85 rfl (by kernel_rfl)) rfl ?_
 exact⟨_,by first|rfl|(simp[*,errW_none,errW_some]<;>rfl),by(with_reducible repeat (first|apply Kd.V_alloc|apply Kd.V_drewN|apply Kd.V_drew));exact Kd.V_mono (Kd.V_far (p:=⟨gb416,1,none⟩) (Kd.V_far (p:=⟨gb416,0,none⟩) (Kd.V_mono HO419.out (fun k_ hk=>(⟨hk,hk.2⟩:_∧k_≠gb416))) (fun _ hk=>hk.2) (.bool false)) (fun _ hk=>hk.2) (.slice Ao11 t417.length co11)) (fun _ hk=>hk.1.1),by repeat (first|(with_reducible first|exact HB.out|apply below_alloc|apply pw_below_drewN|apply below_drew1|refine below_set ?_ GE416.out)|exact HB.out)⟩
def tribunalref02_From.l0:Nat→List Int→Int→Bool→List Int→Option (Bool×List Int)
 | 0,_,_,_,_=>none
 | k+1,x3,x4,x421000,x421001=>if x4<(x421001.length:Int) then(if 0≤x4 then((some (([IntKind.u16.wrap (rd x421001 x4),IntKind.u16.wrap ((rd x421001 x4)/65536),IntKind.u16.wrap ((rd x421001 x4)/4294967296),IntKind.u16.wrap ((rd x421001 x4)/281474976710656)]:List Int):List Int)).bind fun y423=>(if x3.length+y423.length<70368744177664 then(tribunalref02_From.l0 k (x3++y423) (wrap64 (x4+1)) x421000 x421001) else(none))) else(none)) else((tribunalref02_Make.f k x421000 x3).bind fun bt429=>(some (bt429.1,bt429.2)))
def tribunalref02_From.f (k:Nat) (a0_0:Bool) (l0_1:List Int):Option (Bool×List Int):=tribunalref02_From.l0 k ([]:List Int) 0 a0_0 l0_1
theorem tribunalref02_From.calls (k:Nat) (a0_0:Bool) (A0_1:Option Addr) (c0_1:Nat) (l0_1:List Int) (r1:Bool) (r2:List Int) (w:World) (hr0_1:Kd.C (Kd.int .u64) w A0_1 l0_1.length l0_1) (hc0_1:l0_1.length≤c0_1) (h:tribunalref02_From.f k a0_0 l0_1=some (r1,r2)) :
  Calls Tryz.prog 75 #[.agg #[.bool a0_0,.slice A0_1 l0_1.length c0_1]] w fun e w'=>∃v1_:Value,e=.returned (.agg #[.bool r1,v1_])∧Kd.V (Kd.int .u16) 115 w' w.heap.size (fun k_=>(w.heap.size≤k_)) v1_ r2∧Below w.heap.size w w':=by
 have hu26:=Tryz.underlying26
 have hu85:=Tryz.underlying85
 have HR0_1:=Aside0.mk hr0_1
 have HC0_1:=Aside0.mk hc0_1
 clear hr0_1 hc0_1
 have HB:=Aside0.mk (Below.refl w.heap.size w)
 have H:(tribunalref02_From.l0 k ([]:List Int) 0 a0_0 l0_1)=some (r1,r2):=h
 clear h
 have H':=Aside0.mk H
 clear H
 go_enter Tryz.func75,Tryz.ntmps75
 go_wp2_with (first|(refine gd 1 rfl ?_;refine kbe 1 #[.bool a0_0,.slice A0_1 l0_1.length c0_1] 26 ?_;intro gb420 hg w2 hbox hb;have BK420:=Aside0.mk (hbox);have GW420:=kbz hg HB;have GE420:=kbz hg HB;replace HB:=kbs HB hb;clear hb hbox hg)|(refine gd 2 rfl ?_;refine kbe 2 #[.bool false,.slice none 0 0] 85 ?_;intro gb421 hg w3 hbox hb;have BK421:=Aside0.mk (hbox);have GW421:=kbz hg HB;have GE421:=kbz hg HB;replace HB:=kbs HB hb;have NB420_421:=knl hg BK420;have NB421_420:=kng hg BK420;replace BK420:=kbb BK420 hb;clear hb hbox hg))
 go_loopg [3,4] k (fun kq v3 v4 w'=>∃(x3_1:List Int) (x4_1:Int),v4=.int .i64 x4_1∧Aside0 (tribunalref02_From.l0 kq x3_1 x4_1 a0_0 l0_1=some (r1,r2))∧Aside0 (kq≤k)∧Aside0 (Kd.R (Kd.int .u16) 115 w' w.heap.size (fun k_=>(w.heap.size≤k_)) v3 x3_1)∧Aside0 (w'.heap[gb420]? = some (.cells #[.bool a0_0,(.slice A0_1 l0_1.length c0_1)] 26 (0,0)))∧Aside0 (w'.heap[gb421]? = some (.cells #[.bool false,(.slice none 0 0)] 85 (0,0)))∧Aside0 (Below w.heap.size w w'))
 case atStart=>exact⟨(([]:List Int)),(0),(by first|rfl|(simp;done)|(simp[*];done)),H',⟨Nat.le_refl _⟩,⟨by first|exact Kd.R_nil _ _ _ _ _|exact Kd.N_nil _ _ _ _ _|exact Kd.V_nil _ _ _ _ _|exact Kd.Q_nil _ _ _ _ _|exact Kd.S_nil _ _ _ _ _⟩,⟨by(with_reducible repeat (first|refine blk_drewN ?_ _|refine blk_drew ?_|refine blk_alloc ?_ _));exact BK420.out⟩,⟨by(with_reducible repeat (first|refine blk_drewN ?_ _|refine blk_drew ?_|refine blk_alloc ?_ _));exact BK421.out⟩,⟨by repeat (first|(with_reducible first|exact HB.out|apply below_alloc|apply pw_below_drewN|apply below_drew1|refine below_set ?_ GE420.out|refine below_set ?_ GE421.out)|exact HB.out)⟩⟩
 case round=>
  clear H'
  try clear p2
  obtain⟨x3_1,x4_1,rfl,HA,HK1,HO_3,BK420,BK421,HB⟩:=hrel
  cases gk with
  | zero=>exact absurd HA.out (by simp[tribunalref02_From.l0])
  | succ k1=>
   have H:=HA.out
   clear HA
   simp only[tribunalref02_From.l0]at H
   by_cases c4:x4_1<(l0_1.length:Int)
   ·rw[if_pos c4]at H
    have c4b0:decide (x4_1<(l0_1.length:Int))=true:=decide_eq_true c4
    clear c4
    by_cases c5:0≤x4_1
    ·rw[if_pos c5]at H
     have c5b0:decide (0≤x4_1)=true:=decide_eq_true c5
     clear c5
     obtain⟨y423,hy423⟩:∃y_:List Int,y_=(([IntKind.u16.wrap (rd l0_1 x4_1),IntKind.u16.wrap ((rd l0_1 x4_1)/65536),IntKind.u16.wrap ((rd l0_1 x4_1)/4294967296),IntKind.u16.wrap ((rd l0_1 x4_1)/281474976710656)]:List Int)):=⟨_,rfl⟩
     replace H:(if x3_1.length+y423.length<70368744177664 then(tribunalref02_From.l0 k1 (x3_1++y423) (wrap64 (x4_1+1)) a0_0 l0_1) else(none))=some (r1,r2):=by first|(rw[hy423];with_reducible exact H)|(have H2_:=(Option.bind_some _ _).symm.trans H;rw[hy423];with_reducible exact H2_)|(have H2_:=(Option.bind_some _ _).symm.trans H;with_reducible exact H2_)|with_reducible exact H|(rw[hy423];exact H)|exact H
     have Ny423:=Aside0.mk hy423
     clear hy423
     by_cases c6:x3_1.length+y423.length<70368744177664
     ·rw[if_pos c6]at H
      have LMc6:=Aside0.mk c6
      clear c6
      obtain⟨y426,hy426⟩:∃y_:List Int,y_=(x3_1++y423):=⟨_,rfl⟩
      replace H:(tribunalref02_From.l0 k1 y426 (wrap64 (x4_1+1)) a0_0 l0_1)=some (r1,r2):=by first|(rw[hy426];with_reducible exact H)|(have H2_:=(Option.bind_some _ _).symm.trans H;rw[hy426];with_reducible exact H2_)|(have H2_:=(Option.bind_some _ _).symm.trans H;with_reducible exact H2_)|with_reducible exact H|(rw[hy426];exact H)|exact H
      have Ny426:=Aside0.mk hy426
      clear hy426
      have H':=Aside0.mk H
      clear H
      have hnb7:=NB420_421.out
      have hnc7:=NB421_420.out
      have hcz8_0:wr.cell? ⟨gb420,0,none⟩=some (.bool a0_0):=(blk_cell BK420.out 0).trans rfl
      have hcz8_1:wr.cell? ⟨gb420,1,none⟩=some (.slice A0_1 l0_1.length c0_1):=(blk_cell BK420.out 1).trans rfl
      have hfz8_0:=blk_frozen BK420.out 0
      have hfz8_1:=blk_frozen BK420.out 1
      have p422:0≤(x4_1:Int):=of_decide_eq_true ‹_›
      have q422:x4_1<(l0_1.length:Int):=of_decide_eq_true ‹_›
      obtain⟨ad422,e422,hx422_0⟩:=Kd.at_int HR0_1.out x4_1 p422 q422
      cases e422
      replace hx422_0:=(HB.out.cell (World.block_lt_of_cell? w _ hx422_0)).trans hx422_0
      replace p422:=eq_true p422
      replace q422:=eq_true q422
      go_wp2_with (first|(refine gd 30 rfl ?_;refine Kd.R_lit (Kd.int .u16) _ 115 ?hg (N:=30) ?hd (xs:=([IntKind.u16.wrap (rd l0_1 x4_1),IntKind.u16.wrap ((rd l0_1 x4_1)/65536),IntKind.u16.wrap ((rd l0_1 x4_1)/4294967296),IntKind.u16.wrap ((rd l0_1 x4_1)/281474976710656)]:List Int)) (inner:=[.int .u16 (IntKind.u16.wrap (rd l0_1 x4_1)),.int .u16 (IntKind.u16.wrap ((rd l0_1 x4_1)/65536)),.int .u16 (IntKind.u16.wrap ((rd l0_1 x4_1)/4294967296)),.int .u16 (IntKind.u16.wrap ((rd l0_1 x4_1)/281474976710656))]) (ok:=fun _=>True) (okp:=fun _=>True) ?hr ?hp (fun _ hk=>hk) trivial (Below.refl _ _) (Nat.le_refl _) (by simp) ?_;(case hd=>rfl);(case hg=>rfl);(case hr=>first|(go_simp;done)|(go_simp;rfl));(case hp=>exact(Reps.one (show Kd.M (Kd.int .u16) _ _ _ (IntKind.u16.wrap (rd l0_1 x4_1)) [.int .u16 (IntKind.u16.wrap (rd l0_1 x4_1))] from rfl) (Reps.one (show Kd.M (Kd.int .u16) _ _ _ (IntKind.u16.wrap ((rd l0_1 x4_1)/65536)) [.int .u16 (IntKind.u16.wrap ((rd l0_1 x4_1)/65536))] from rfl) (Reps.one (show Kd.M (Kd.int .u16) _ _ _ (IntKind.u16.wrap ((rd l0_1 x4_1)/4294967296)) [.int .u16 (IntKind.u16.wrap ((rd l0_1 x4_1)/4294967296))] from rfl) (Reps.one (show Kd.M (Kd.int .u16) _ _ _ (IntKind.u16.wrap ((rd l0_1 x4_1)/281474976710656)) [.int .u16 (IntKind.u16.wrap ((rd l0_1 x4_1)/281474976710656))] from rfl) (Reps.none _ _))))));intro v424 w9 ho10 hb hg_ hnew_;clear hg_ hnew_;(first|rw[←Ny423.out]at ho10|(simp only[Int.reduceToNat]at ho10;rw[←Ny423.out]at ho10));have HO425:=Aside0.mk (Kd.R_lower (Kd.R_new' (Kd.R_newM (M:=fun k_=>(w.heap.size≤k_)) ho10 (below_size (khu HB.out)) (fun k_ h_=>h_)) (Kd.R_lt (kru HO_3.out))) (below_size (khu HB.out)));replace HO_3:=Aside0.mk (Kd.R_elder' (kru HO_3.out) (Kd.R_base ho10) hb);replace BK420:=kbb BK420 hb;replace BK421:=kbb BK421 hb;replace HB:=kbs HB hb;clear hb ho10;obtain⟨Ao12,co12,eo12⟩:=Kd.R_slice HO425.out;subst eo12)|((with_reducible refine gate_builtin (b:=.append) (xs:=#[.tmp 18,.tmp 30]) rfl ?_);at_builtin;refine Kd.R_append_rows (Kd.int .u16) (w0:=w) w.heap.size rfl (.tmp 18) (.tmp 30) 83 115 (.int .u16 0) 2 rfl Tryz.underlying83 info115 rfl (by decide) (by omega) u3 x3_1 y423 _ _ _ (fun k_=>(w.heap.size≤k_)∧some k_≠(.slice Ao12 y423.length co12:Value).ownBlock) (fun _=>False) rfl rfl ?aO ?aR (fun _ _ h=>h) (fun _ h=>h.elim) ?aF ?aB ?aS ?aL ?_;(case aR=>repeat (first|exact(Kd.R_reads' HO425.out).2.2|(with_reducible refine Kd.C_alloc ?_ _)|(with_reducible refine Kd.C_drewN ?_ _)|(with_reducible refine Kd.C_drew ?_)));(case aB=>exact(khu HB.out));(case aF=>exact(fun k_ hk=>⟨(Nat.le_trans (below_size (khu HB.out)) hk),Kd.fresh' (Kd.R_lt (kru HO425.out)) k_ hk⟩));(case aO=>exact(kru HO_3.out));(case aS=>exact(below_size (khu HB.out)));(case aL=>have:=LMc6.out;omega);intro v427 w11 ho hb hg hat;rw[←Ny426.out]at ho;replace BK420:=Aside0.mk (blk_grown (g:=gb420) (o:=.cells #[.bool a0_0,.slice (some ad422) l0_1.length c0_1] 26 (0,0)) (kbu BK420.out) hg (Kd.R_ne HO_3.out BK420.out (by decide)));replace BK421:=Aside0.mk (blk_grown (g:=gb421) (o:=.cells #[.bool false,.slice none 0 0] 85 (0,0)) (kbu BK421.out) hg (Kd.R_ne HO_3.out BK421.out (by decide)));replace HO425:=Aside0.mk (Kd.R_after (ok:=(fun k_=>(w.heap.size≤k_))) (by(with_reducible repeat (first|apply Kd.R_alloc|apply Kd.R_drewN|apply Kd.R_drew));exact Kd.R_mono HO425.out (fun _ hk=>⟨hk.1.1,hk.2⟩)) hg hat);replace HB:=Aside0.mk (hb);have HO428:=Aside0.mk (ho);clear HO_3;clear ho hb hg hat))
      go_roundg k1
      case measure=>have:=HK1.out;omega
      case rel=>exact⟨(y426),(wrap64 (x4_1+1)),(by first|rfl|(simp;done)|(simp[*];done)),H',⟨by have:=HK1.out;omega⟩,⟨by(with_reducible repeat (first|apply Kd.R_alloc|apply Kd.R_drewN|apply Kd.R_drew));exact Kd.R_mono HO428.out (fun _ hk=>hk.1)⟩,⟨by(with_reducible repeat (first|refine blk_drewN ?_ _|refine blk_drew ?_|refine blk_alloc ?_ _));exact BK420.out⟩,⟨by(with_reducible repeat (first|refine blk_drewN ?_ _|refine blk_drew ?_|refine blk_alloc ?_ _));exact BK421.out⟩,⟨by repeat (first|(with_reducible first|exact HB.out|apply below_alloc|apply pw_below_drewN|apply below_drew1|refine below_set ?_ GE420.out|refine below_set ?_ GE421.out)|exact HB.out)⟩⟩
     rw[if_neg c6]at H
     exact absurd H (by simp)
    rw[if_neg c5]at H
    exact absurd H (by simp)
   rw[if_neg c4]at H
   have c4b0:decide (x4_1<(l0_1.length:Int))=false:=decide_eq_false c4
   clear c4
   replace H:=Option.bind_eq_some_iff.mp H
   obtain⟨⟨t429,t430⟩,A130,H⟩:=H
   replace H:(some (t429,t430))=some (r1,r2):=H
   have A13:=Aside0.mk A130
   clear A130
   simp only[Option.some.injEq,Prod.mk.injEq]at H
   obtain⟨rfl,rfl⟩:=H
   have hnb14:=NB420_421.out
   have hnc14:=NB421_420.out
   have hcz15_0:wr.cell? ⟨gb420,0,none⟩=some (.bool a0_0):=(blk_cell BK420.out 0).trans rfl
   have hcz15_1:wr.cell? ⟨gb420,1,none⟩=some (.slice A0_1 l0_1.length c0_1):=(blk_cell BK420.out 1).trans rfl
   have hfz15_0:=blk_frozen BK420.out 0
   have hfz15_1:=blk_frozen BK420.out 1
   obtain⟨Ao16,co16,eo16⟩:=Kd.R_slice HO_3.out
   subst eo16
   go_wp2_with (first|((with_reducible refine gate_callee (f:=51) rfl ?_);refine kgl (some 35) rfl rfl Tryz.func51 #[.bool a0_0,.slice Ao16 x3_1.length co16] rfl ?_;(with_reducible refine(tribunalref02_Make.calls k1 a0_0 (fun k_=>some k_=(.slice Ao16 x3_1.length co16:Value).ownBlock) _ _ x3_1 t429 t430 _ ?side1 A13.out).mono ?_);(case side1=>exact Kd.R_V (Kd.R_tight rfl (Kd.R_types (Kd.R_types (HO_3.out) BK420.out (by decide)) BK421.out (by decide))));rintro e w17 ⟨v431,rfl,ho0,hb⟩;refine⟨_,rfl,?_⟩;have HO432:=Aside0.mk (Kd.V_lower (Kd.V_mono (ok':=fun k_=>(w.heap.size≤k_)∧k_≠gb420∧k_≠gb421) ho0 (fun k_ hk_=>⟨Or.elim hk_ (fun hs_=>((Kd.R_types (Kd.R_types (HO_3.out) BK420.out (by decide)) BK421.out (by decide)).1 k_ hs_.symm).1.1) (fun hn_=>(Nat.le_trans (below_size (khu HB.out)) hn_)),Or.elim hk_ (fun hs_=>((Kd.R_types (Kd.R_types (HO_3.out) BK420.out (by decide)) BK421.out (by decide)).1 k_ hs_.symm).1.2) (kfb BK420),Or.elim hk_ (fun hs_=>((Kd.R_types (Kd.R_types (HO_3.out) BK420.out (by decide)) BK421.out (by decide)).1 k_ hs_.symm).2) (kfb BK421)⟩)) (below_size (khu HB.out)));replace HO_3:=krb HO_3 hb;replace BK420:=kbb BK420 hb;replace BK421:=kbb BK421 hb;replace HB:=kbs HB hb;(try clear hb);(try clear hb2);(try clear hk);(try clear hi);(try clear ho0);have hcz18_0:w17.cell? ⟨gb421,0,none⟩=some (.bool false):=(blk_cell BK421.out 0).trans rfl;have hcz18_1:w17.cell? ⟨gb421,1,none⟩=some (.slice none 0 0):=(blk_cell BK421.out 1).trans rfl;have hfz18_0:=blk_frozen BK421.out 0;have hfz18_1:=blk_frozen BK421.out 1;obtain⟨Ao19,co19,eo19⟩:=Kd.V_slice HO432.out;subst eo19))
   refine bodyPost_ret (results_cell_row rfl _ _ gb421 85 #[.bool t429,.slice Ao19 t430.length co19] (0,0) _ rfl (kpu #[.bool t429,.slice none 0 0] 1 (kpu #[.bool false,.slice none 0 0] 0 (kbu BK421.out))) Tryz.underlying85 rfl (by kernel_rfl)) rfl ?_
   exact⟨_,by first|rfl|(simp[*,errW_none,errW_some]<;>rfl),by(with_reducible repeat (first|apply Kd.V_alloc|apply Kd.V_drewN|apply Kd.V_drew));exact Kd.V_mono (Kd.V_far (p:=⟨gb421,1,none⟩) (Kd.V_far (p:=⟨gb421,0,none⟩) (Kd.V_mono HO432.out (fun k_ hk=>(⟨hk,hk.2.2⟩:_∧k_≠gb421))) (fun _ hk=>hk.2) (.bool t429)) (fun _ hk=>hk.2) (.slice Ao19 t430.length co19)) (fun _ hk=>hk.1.1),by repeat (first|(with_reducible first|exact HB.out|apply below_alloc|apply pw_below_drewN|apply below_drew1|refine below_set ?_ GE420.out|refine below_set ?_ GE421.out)|exact HB.out)⟩
def tribunalref03_long.f (a0_0:Bool) (l0_1:List Int):Option (Bool):=some (decide ((l0_1.length:Int)>4096))
theorem tribunalref03_long.calls (a0_0:Bool) (A0_1:Option Addr) (c0_1:Nat) (l0_1:List Int) (r:Bool) (w:World) (hr0_1:Kd.C (Kd.int .u16) w A0_1 l0_1.length l0_1) (hc0_1:l0_1.length≤c0_1) (h:tribunalref03_long.f a0_0 l0_1=some r) :
  Calls Tryz.prog 76 #[.agg #[.bool a0_0,.slice A0_1 l0_1.length c0_1]] w fun e w'=>e=.returned (.bool r)∧Below w.heap.size w w':=by
 have hu85:=Tryz.underlying85
 have K:=Kp.refl w
 replace K:=K.parV (Kd.V_mono (ok':=fun _=>True) (Kd.V_mk (e:=115) (base:=0) hc0_1 (Kd.C_F (Kd.heap_int .u16) hr0_1)) (fun _ h=>trivial))
 clear hr0_1 hc0_1
 try simp only[klv]at K
 rw[tribunalref03_long.f]at h
 simp only[Option.some.injEq]at h
 subst h
 go_enter Tryz.func76,Tryz.ntmps76
 go_wp2_with (first|(refine gd 1 rfl ?_;refine kbk 1 #[.bool a0_0,.slice A0_1 l0_1.length c0_1] 85 K.u ?_;clear K;intro g1 W2 K;obtain⟨ua0,ub0⟩:=K.cell2 0 rfl))
 go_ret
 exact⟨rfl,K.u.below⟩
def tribunalref03_From.f (k:Nat) (a0_0:Bool) (l0_1:List Int) (l0_2:List Int):Option (Bool×List Int×Bool×List Int×Int):=(tribunalref02_From.f k a0_0 l0_1).bind fun bt436=>((tribunalref02_From.f k false l0_2).bind fun bt441=>(if(bt441.2.length:Int)=0 then(some (false,([]:List Int),false,([]:List Int),11)) else((tribunalref03_long.f bt436.1 bt436.2).bind fun t446=>(if t446=true then(some (false,([]:List Int),false,([]:List Int),5)) else((tribunalref03_long.f bt441.1 bt441.2).bind fun t447=>(if t447=true then(some (false,([]:List Int),false,([]:List Int),5)) else(some (bt436.1,bt436.2,bt441.1,bt441.2,0))))))))
theorem tribunalref03_From.calls (k:Nat) (a0_0:Bool) (A0_1:Option Addr) (c0_1:Nat) (l0_1:List Int) (A0_2:Option Addr) (c0_2:Nat) (l0_2:List Int) (r1:Bool) (r2:List Int) (r3:Bool) (r4:List Int) (r5:Int) (w:World) (hr0_1:Kd.C (Kd.int .u64) w A0_1 l0_1.length l0_1) (hc0_1:l0_1.length≤c0_1) (hr0_2:Kd.C (Kd.int .u64) w A0_2 l0_2.length l0_2) (hc0_2:l0_2.length≤c0_2) (h:tribunalref03_From.f k a0_0 l0_1 l0_2=some (r1,r2,r3,r4,r5)) :
  Calls Tryz.prog 64 #[.agg #[.bool a0_0,.slice A0_1 l0_1.length c0_1,.slice A0_2 l0_2.length c0_2]] w fun e w'=>∃v1_ v3_:Value,e=.returned (.tuple #[.agg #[.bool r1,v1_,.bool r3,v3_],.int .i64 r5])∧Kd.V (Kd.int .u16) 115 w' w.heap.size (fun k_=>(w.heap.size≤k_)) v1_ r2∧Kd.V (Kd.int .u16) 115 w' w.heap.size (fun k_=>(w.heap.size≤k_)) v3_ r4∧Below w.heap.size w w':=by
 have hu26:=Tryz.underlying26
 have hu39:=Tryz.underlying39
 have hu85:=Tryz.underlying85
 have hu108:=Tryz.underlying108
 have K:=Kp.refl w
 replace K:=K.parV (Kd.V_mono (ok':=fun k=>k<w.heap.size) (Kd.V_mk (e:=72) (base:=0) hc0_1 (Kd.C_F (Kd.heap_int .u64) hr0_1)) (fun _ h=>h))
 clear hr0_1 hc0_1
 replace K:=K.parV (Kd.V_mono (ok':=fun k=>k<w.heap.size) (Kd.V_mk (e:=72) (base:=0) hc0_2 (Kd.C_F (Kd.heap_int .u64) hr0_2)) (fun _ h=>h))
 clear hr0_2 hc0_2
 try simp only[klv]at K
 rw[tribunalref03_From.f]at h
 replace h:=bindA h
 obtain⟨⟨z5,x6⟩,A7,h⟩:=h
 dsimp only at h
 replace h:=bindA h
 obtain⟨⟨z18,x19⟩,A20,h⟩:=h
 dsimp only at h
 by_cases c_0:(x19.length:Int)=0
 ·rw[if_pos c_0]at h
  have c_0b0:((x19.length:Int)==0)=true:=beq_iff_eq.mpr c_0
  have c_0b1:((x19.length:Int) != 0)=false:=bne_eq_false_iff_eq.mpr c_0
  have c_0b2:x19=[]:=List.length_eq_zero_iff.1 (by omega)
  simp only[Option.some.injEq,Prod.mk.injEq]at h
  obtain⟨rfl,rfl,rfl,rfl,rfl⟩:=h
  go_enter Tryz.func64,Tryz.ntmps64
  go_wp2_with (first|(refine gd 1 rfl ?_;refine kbk 1 #[.bool a0_0,.slice A0_1 l0_1.length c0_1,.slice A0_2 l0_2.length c0_2] 39 K.u ?_;clear K;intro g1 W2 K)|(refine gd 2 rfl ?_;refine kbk 2 #[.bool false,.slice none 0 0,.bool false,.slice none 0 0] 108 K.u ?_;clear K;intro g3 W4 K;have ua0:=K.cell 0 rfl 0 rfl;have ub0:=K.cell 0 rfl 1 rfl;have uc0:=K.cell 0 rfl 2 rfl)|(refine gd 8 rfl ?_;clear ua0 ub0 uc0;refine kgl (some 8) rfl rfl Tryz.func75 #[.agg #[.bool a0_0,.slice A0_1 l0_1.length c0_1]] rfl ?_;refine(tribunalref02_From.calls _ a0_0 _ _ l0_1 z5 x6 _ (K.C 0 rfl) (K.le 0 rfl) A7.out).mono ?_;rintro e W10 ⟨v8,rfl,ho9,hb⟩;refine⟨_,rfl,?_⟩;replace K:=K.u.addF (fun _=>False) hb ho9;clear hb ho9;obtain⟨P11,c12,e13⟩:=K.slice 2 rfl;subst e13)|(refine gd 4 rfl ?_;refine kbk 4 #[.bool false,.slice none 0 0] 85 K.u ?_;clear K;intro g14 W15 K)|(refine gs 85 4 8 rfl ?_;refine ks2 2 (.bool z5) (.slice P11 x6.length c12) K.u rfl ?_;clear K;intro W16 K;simp only[kls,klv]at K;have ua0:=K.cell 0 rfl 0 rfl;have ub0:=K.cell 0 rfl 1 rfl;have uc0:=K.cell 0 rfl 2 rfl)|(refine gd 12 rfl ?_;clear ua0 ub0 uc0;refine kgl (some 12) rfl rfl Tryz.func75 #[.agg #[.bool false,.slice A0_2 l0_2.length c0_2]] rfl ?_;refine(tribunalref02_From.calls _ false _ _ l0_2 z18 x19 _ (K.C 1 rfl) (K.le 1 rfl) A20.out).mono ?_;rintro e W23 ⟨v21,rfl,ho22,hb⟩;refine⟨_,rfl,?_⟩;replace K:=K.u.addF (fun _=>False) hb ho22;clear hb ho22;obtain⟨P24,c25,e26⟩:=K.slice 3 rfl;subst e26)|(refine gd 5 rfl ?_;refine kbk 5 #[.bool false,.slice none 0 0] 85 K.u ?_;clear K;intro g27 W28 K)|(refine gs 85 5 12 rfl ?_;refine ks2 3 (.bool z18) (.slice P24 x19.length c25) K.u rfl ?_;clear K;intro W29 K;simp only[kls,klv]at K;obtain⟨ua3,ub3⟩:=K.cell2 3 rfl)|(refine gs 108 2 17 rfl ?_;clear ua3 ub3;refine kstN 1 0 [.bool false,.slice none 0 0,.bool false,.slice none 0 0] K.u rfl ?q32 ?_;(case q32=>intro hc hf;have c0:=hc 0 _ rfl;have f0:=hf 0;have c1:=hc 1 _ rfl;have f1:=hf 1;have c2:=hc 2 _ rfl;have f2:=hf 2;have c3:=hc 3 _ rfl;have f3:=hf 3;clear hc hf;first|(go_simp;done)|(go_simp;rfl));clear K;intro W31 K;simp only[kls,klv,kpl,kss]at K))
  refine bodyPost_ret (results_list (rs:=[.cell 2 108,.tmp 3]) rfl (by simp) (.cell g3 108 #[.bool false,.slice none 0 0,.bool false,.slice none 0 0] (0,0) _ rfl (K.u.heap 1 rfl) Tryz.underlying108 rfl (by kernel_rfl) (.tmp .nil))) rfl ?_
  exact⟨_,_,rfl,Kd.V_nil _ _ _ _ _,Kd.V_nil _ _ _ _ _,K.u.below⟩
 rw[if_neg c_0]at h
 have c_0b0:((x19.length:Int)==0)=false:=beq_eq_false_iff_ne.mpr c_0
 have c_0b1:((x19.length:Int) != 0)=true:=bne_iff_ne.mpr c_0
 have c_0b2:¬(x19=[]):=fun h_=>c_0 (by rw[h_];rfl)
 replace h:=bindA h
 obtain⟨z31,A32,h⟩:=h
 by_cases c_1:z31=true
 ·subst c_1
  rw[if_pos rfl]at h
  simp only[Option.some.injEq,Prod.mk.injEq]at h
  obtain⟨rfl,rfl,rfl,rfl,rfl⟩:=h
  go_enter Tryz.func64,Tryz.ntmps64
  go_wp2_with (first|(refine gd 1 rfl ?_;refine kbk 1 #[.bool a0_0,.slice A0_1 l0_1.length c0_1,.slice A0_2 l0_2.length c0_2] 39 K.u ?_;clear K;intro g1 W2 K)|(refine gd 2 rfl ?_;refine kbk 2 #[.bool false,.slice none 0 0,.bool false,.slice none 0 0] 108 K.u ?_;clear K;intro g3 W4 K;have ua0:=K.cell 0 rfl 0 rfl;have ub0:=K.cell 0 rfl 1 rfl;have uc0:=K.cell 0 rfl 2 rfl)|(refine gd 8 rfl ?_;clear ua0 ub0 uc0;refine kgl (some 8) rfl rfl Tryz.func75 #[.agg #[.bool a0_0,.slice A0_1 l0_1.length c0_1]] rfl ?_;refine(tribunalref02_From.calls _ a0_0 _ _ l0_1 z5 x6 _ (K.C 0 rfl) (K.le 0 rfl) A7.out).mono ?_;rintro e W10 ⟨v8,rfl,ho9,hb⟩;refine⟨_,rfl,?_⟩;replace K:=K.u.addF (fun _=>False) hb ho9;clear hb ho9;obtain⟨P11,c12,e13⟩:=K.slice 2 rfl;subst e13)|(refine gd 4 rfl ?_;refine kbk 4 #[.bool false,.slice none 0 0] 85 K.u ?_;clear K;intro g14 W15 K)|(refine gs 85 4 8 rfl ?_;refine ks2 2 (.bool z5) (.slice P11 x6.length c12) K.u rfl ?_;clear K;intro W16 K;simp only[kls,klv]at K;have ua0:=K.cell 0 rfl 0 rfl;have ub0:=K.cell 0 rfl 1 rfl;have uc0:=K.cell 0 rfl 2 rfl)|(refine gd 12 rfl ?_;clear ua0 ub0 uc0;refine kgl (some 12) rfl rfl Tryz.func75 #[.agg #[.bool false,.slice A0_2 l0_2.length c0_2]] rfl ?_;refine(tribunalref02_From.calls _ false _ _ l0_2 z18 x19 _ (K.C 1 rfl) (K.le 1 rfl) A20.out).mono ?_;rintro e W23 ⟨v21,rfl,ho22,hb⟩;refine⟨_,rfl,?_⟩;replace K:=K.u.addF (fun _=>False) hb ho22;clear hb ho22;obtain⟨P24,c25,e26⟩:=K.slice 3 rfl;subst e26)|(refine gd 5 rfl ?_;refine kbk 5 #[.bool false,.slice none 0 0] 85 K.u ?_;clear K;intro g27 W28 K)|(refine gs 85 5 12 rfl ?_;refine ks2 3 (.bool z18) (.slice P24 x19.length c25) K.u rfl ?_;clear K;intro W29 K;simp only[kls,klv]at K;obtain⟨ua3,ub3⟩:=K.cell2 3 rfl;obtain⟨ua2,ub2⟩:=K.cell2 2 rfl)|(refine gd 19 rfl ?_;clear ua3 ub3 ua2 ub2;refine kgl (some 19) rfl rfl Tryz.func76 #[.agg #[.bool z5,.slice P11 x6.length c12]] rfl ?_;refine(tribunalref03_long.calls z5 _ _ x6 true _ (K.C 2 rfl) (K.le 2 rfl) A32.out).mono ?_;rintro e W33 ⟨rfl,hb⟩;refine⟨_,rfl,?_⟩;replace K:=K.u.up hb;clear hb)|(refine gs 108 2 24 rfl ?_;refine kstN 1 0 [.bool false,.slice none 0 0,.bool false,.slice none 0 0] K.u rfl ?q35 ?_;(case q35=>intro hc hf;have c0:=hc 0 _ rfl;have f0:=hf 0;have c1:=hc 1 _ rfl;have f1:=hf 1;have c2:=hc 2 _ rfl;have f2:=hf 2;have c3:=hc 3 _ rfl;have f3:=hf 3;clear hc hf;first|(go_simp;done)|(go_simp;rfl));clear K;intro W34 K;simp only[kls,klv,kpl,kss]at K))
  refine bodyPost_ret (results_list (rs:=[.cell 2 108,.tmp 3]) rfl (by simp) (.cell g3 108 #[.bool false,.slice none 0 0,.bool false,.slice none 0 0] (0,0) _ rfl (K.u.heap 1 rfl) Tryz.underlying108 rfl (by kernel_rfl) (.tmp .nil))) rfl ?_
  exact⟨_,_,rfl,Kd.V_nil _ _ _ _ _,Kd.V_nil _ _ _ _ _,K.u.below⟩
 replace c_1:=Bool.eq_false_iff.mpr c_1
 subst c_1
 rw[if_neg (by decide)]at h
 replace h:=bindA h
 obtain⟨z34,A35,h⟩:=h
 by_cases c_2:z34=true
 ·subst c_2
  rw[if_pos rfl]at h
  simp only[Option.some.injEq,Prod.mk.injEq]at h
  obtain⟨rfl,rfl,rfl,rfl,rfl⟩:=h
  go_enter Tryz.func64,Tryz.ntmps64
  go_wp2_with (first|(refine gd 1 rfl ?_;refine kbk 1 #[.bool a0_0,.slice A0_1 l0_1.length c0_1,.slice A0_2 l0_2.length c0_2] 39 K.u ?_;clear K;intro g1 W2 K)|(refine gd 2 rfl ?_;refine kbk 2 #[.bool false,.slice none 0 0,.bool false,.slice none 0 0] 108 K.u ?_;clear K;intro g3 W4 K;have ua0:=K.cell 0 rfl 0 rfl;have ub0:=K.cell 0 rfl 1 rfl;have uc0:=K.cell 0 rfl 2 rfl)|(refine gd 8 rfl ?_;clear ua0 ub0 uc0;refine kgl (some 8) rfl rfl Tryz.func75 #[.agg #[.bool a0_0,.slice A0_1 l0_1.length c0_1]] rfl ?_;refine(tribunalref02_From.calls _ a0_0 _ _ l0_1 z5 x6 _ (K.C 0 rfl) (K.le 0 rfl) A7.out).mono ?_;rintro e W10 ⟨v8,rfl,ho9,hb⟩;refine⟨_,rfl,?_⟩;replace K:=K.u.addF (fun _=>False) hb ho9;clear hb ho9;obtain⟨P11,c12,e13⟩:=K.slice 2 rfl;subst e13)|(refine gd 4 rfl ?_;refine kbk 4 #[.bool false,.slice none 0 0] 85 K.u ?_;clear K;intro g14 W15 K)|(refine gs 85 4 8 rfl ?_;refine ks2 2 (.bool z5) (.slice P11 x6.length c12) K.u rfl ?_;clear K;intro W16 K;simp only[kls,klv]at K;have ua0:=K.cell 0 rfl 0 rfl;have ub0:=K.cell 0 rfl 1 rfl;have uc0:=K.cell 0 rfl 2 rfl)|(refine gd 12 rfl ?_;clear ua0 ub0 uc0;refine kgl (some 12) rfl rfl Tryz.func75 #[.agg #[.bool false,.slice A0_2 l0_2.length c0_2]] rfl ?_;refine(tribunalref02_From.calls _ false _ _ l0_2 z18 x19 _ (K.C 1 rfl) (K.le 1 rfl) A20.out).mono ?_;rintro e W23 ⟨v21,rfl,ho22,hb⟩;refine⟨_,rfl,?_⟩;replace K:=K.u.addF (fun _=>False) hb ho22;clear hb ho22;obtain⟨P24,c25,e26⟩:=K.slice 3 rfl;subst e26)|(refine gd 5 rfl ?_;refine kbk 5 #[.bool false,.slice none 0 0] 85 K.u ?_;clear K;intro g27 W28 K)|(refine gs 85 5 12 rfl ?_;refine ks2 3 (.bool z18) (.slice P24 x19.length c25) K.u rfl ?_;clear K;intro W29 K;simp only[kls,klv]at K;obtain⟨ua3,ub3⟩:=K.cell2 3 rfl;obtain⟨ua2,ub2⟩:=K.cell2 2 rfl)|(refine gd 19 rfl ?_;clear ua3 ub3 ua2 ub2;refine kgl (some 19) rfl rfl Tryz.func76 #[.agg #[.bool z5,.slice P11 x6.length c12]] rfl ?_;refine(tribunalref03_long.calls z5 _ _ x6 false _ (K.C 2 rfl) (K.le 2 rfl) A32.out).mono ?_;rintro e W33 ⟨rfl,hb⟩;refine⟨_,rfl,?_⟩;replace K:=K.u.up hb;clear hb;obtain⟨ua3,ub3⟩:=K.cell2 3 rfl)|(refine gd 22 rfl ?_;clear ua3 ub3;refine gate_guard (by rfl) ?_;refine kgl (some 22) rfl rfl Tryz.func76 #[.agg #[.bool z18,.slice P24 x19.length c25]] rfl ?_;refine(tribunalref03_long.calls z18 _ _ x19 true _ (K.C 3 rfl) (K.le 3 rfl) A35.out).mono ?_;rintro e W36 ⟨rfl,hb⟩;refine⟨_,rfl,?_⟩;replace K:=K.u.up hb;clear hb)|(refine gs 108 2 24 rfl ?_;refine kstN 1 0 [.bool false,.slice none 0 0,.bool false,.slice none 0 0] K.u rfl ?q38 ?_;(case q38=>intro hc hf;have c0:=hc 0 _ rfl;have f0:=hf 0;have c1:=hc 1 _ rfl;have f1:=hf 1;have c2:=hc 2 _ rfl;have f2:=hf 2;have c3:=hc 3 _ rfl;have f3:=hf 3;clear hc hf;first|(go_simp;done)|(go_simp;rfl));clear K;intro W37 K;simp only[kls,klv,kpl,kss]at K))
  refine bodyPost_ret (results_list (rs:=[.cell 2 108,.tmp 3]) rfl (by simp) (.cell g3 108 #[.bool false,.slice none 0 0,.bool false,.slice none 0 0] (0,0) _ rfl (K.u.heap 1 rfl) Tryz.underlying108 rfl (by kernel_rfl) (.tmp .nil))) rfl ?_
  exact⟨_,_,rfl,Kd.V_nil _ _ _ _ _,Kd.V_nil _ _ _ _ _,K.u.below⟩
 replace c_2:=Bool.eq_false_iff.mpr c_2
 subst c_2
 rw[if_neg (by decide)]at h
 simp only[Option.some.injEq,Prod.mk.injEq]at h
 obtain⟨rfl,rfl,rfl,rfl,rfl⟩:=h
 go_enter Tryz.func64,Tryz.ntmps64
 go_wp2_with (first|(refine gd 1 rfl ?_;refine kbk 1 #[.bool a0_0,.slice A0_1 l0_1.length c0_1,.slice A0_2 l0_2.length c0_2] 39 K.u ?_;clear K;intro g1 W2 K)|(refine gd 2 rfl ?_;refine kbk 2 #[.bool false,.slice none 0 0,.bool false,.slice none 0 0] 108 K.u ?_;clear K;intro g3 W4 K;have ua0:=K.cell 0 rfl 0 rfl;have ub0:=K.cell 0 rfl 1 rfl;have uc0:=K.cell 0 rfl 2 rfl)|(refine gd 8 rfl ?_;clear ua0 ub0 uc0;refine kgl (some 8) rfl rfl Tryz.func75 #[.agg #[.bool a0_0,.slice A0_1 l0_1.length c0_1]] rfl ?_;refine(tribunalref02_From.calls _ a0_0 _ _ l0_1 z5 x6 _ (K.C 0 rfl) (K.le 0 rfl) A7.out).mono ?_;rintro e W10 ⟨v8,rfl,ho9,hb⟩;refine⟨_,rfl,?_⟩;replace K:=K.u.addF (fun _=>False) hb ho9;clear hb ho9;obtain⟨P11,c12,e13⟩:=K.slice 2 rfl;subst e13)|(refine gd 4 rfl ?_;refine kbk 4 #[.bool false,.slice none 0 0] 85 K.u ?_;clear K;intro g14 W15 K)|(refine gs 85 4 8 rfl ?_;refine ks2 2 (.bool z5) (.slice P11 x6.length c12) K.u rfl ?_;clear K;intro W16 K;simp only[kls,klv]at K;have ua0:=K.cell 0 rfl 0 rfl;have ub0:=K.cell 0 rfl 1 rfl;have uc0:=K.cell 0 rfl 2 rfl)|(refine gd 12 rfl ?_;clear ua0 ub0 uc0;refine kgl (some 12) rfl rfl Tryz.func75 #[.agg #[.bool false,.slice A0_2 l0_2.length c0_2]] rfl ?_;refine(tribunalref02_From.calls _ false _ _ l0_2 z18 x19 _ (K.C 1 rfl) (K.le 1 rfl) A20.out).mono ?_;rintro e W23 ⟨v21,rfl,ho22,hb⟩;refine⟨_,rfl,?_⟩;replace K:=K.u.addF (fun _=>False) hb ho22;clear hb ho22;obtain⟨P24,c25,e26⟩:=K.slice 3 rfl;subst e26)|(refine gd 5 rfl ?_;refine kbk 5 #[.bool false,.slice none 0 0] 85 K.u ?_;clear K;intro g27 W28 K)|(refine gs 85 5 12 rfl ?_;refine ks2 3 (.bool z18) (.slice P24 x19.length c25) K.u rfl ?_;clear K;intro W29 K;simp only[kls,klv]at K;obtain⟨ua3,ub3⟩:=K.cell2 3 rfl;obtain⟨ua2,ub2⟩:=K.cell2 2 rfl)|(refine gd 19 rfl ?_;clear ua3 ub3 ua2 ub2;refine kgl (some 19) rfl rfl Tryz.func76 #[.agg #[.bool z5,.slice P11 x6.length c12]] rfl ?_;refine(tribunalref03_long.calls z5 _ _ x6 false _ (K.C 2 rfl) (K.le 2 rfl) A32.out).mono ?_;rintro e W33 ⟨rfl,hb⟩;refine⟨_,rfl,?_⟩;replace K:=K.u.up hb;clear hb;obtain⟨ua3,ub3⟩:=K.cell2 3 rfl)|(refine gd 22 rfl ?_;clear ua3 ub3;refine gate_guard (by rfl) ?_;refine kgl (some 22) rfl rfl Tryz.func76 #[.agg #[.bool z18,.slice P24 x19.length c25]] rfl ?_;refine(tribunalref03_long.calls z18 _ _ x19 false _ (K.C 3 rfl) (K.le 3 rfl) A35.out).mono ?_;rintro e W36 ⟨rfl,hb⟩;refine⟨_,rfl,?_⟩;replace K:=K.u.up hb;clear hb;obtain⟨ua2,ub2⟩:=K.cell2 2 rfl;obtain⟨ua3,ub3⟩:=K.cell2 3 rfl)|(refine gs 108 2 27 rfl ?_;clear ua2 ub2 ua3 ub3;refine kstN 1 0 [.bool z5,.slice P11 x6.length c12,.bool z18,.slice P24 x19.length c25] K.u rfl ?q38 ?_;(case q38=>intro hc hf;have c0:=hc 0 _ rfl;have f0:=hf 0;have c1:=hc 1 _ rfl;have f1:=hf 1;have c2:=hc 2 _ rfl;have f2:=hf 2;have c3:=hc 3 _ rfl;have f3:=hf 3;clear hc hf;first|(go_simp;done)|(go_simp;rfl));clear K;intro W37 K;simp only[kls,klv,kpl,kss]at K))
 refine bodyPost_ret (results_list (rs:=[.cell 2 108,.tmp 3]) rfl (by simp) (.cell g3 108 #[.bool z5,.slice P11 x6.length c12,.bool z18,.slice P24 x19.length c25] (0,0) _ rfl (K.u.heap 1 rfl) Tryz.underlying108 rfl (by kernel_rfl) (.tmp .nil))) rfl ?_
 exact⟨_,_,rfl,K.u.hand 2 rfl (fun _ h=>h.elim (fun h=>h.elim) id),K.u.hand 3 rfl (fun _ h=>h.elim (fun h=>h.elim) id),K.u.below⟩
end Go.Proofs.YtikencoikigllaaGreatDoor.PRy
namespace Go.Proofs.YtikencoikigllaaGreatDoor.PRy
open Go.RowKit Go.Proofs.YtikencoikigllaaGreatDoorW.PrintWords Go.Proofs.YtikencoikigllaaGreatDoorW.PrintLast Go.Proofs.YtikencoikigllaaGreatDoorW.PrintMore
open Go.Proofs.YtikencoikigllaaGreatDoor.Mine
attribute [local go_sem] max2_int min2_int max_two min_two max_three min_three max_four min_four
mutual
def tribunalref02_To.l0:Nat→List Int→Int→Bool→List Int→Option (Bool×List Int)
 | 0,_,_,_,_=>none
 | k+1,x3,x4,x449000,x449001=>if x4<(x449001.length:Int) then(tribunalref02_To.l1 k x3 x4 0 3 x449000 x449001) else(some (x449000,x3))
def tribunalref02_To.l1:Nat→List Int→Int→Int→Int→Bool→List Int→Option (Bool×List Int)
 | 0,_,_,_,_,_,_=>none
 | k+1,x3,x4,x5,x6,x449000,x449001=>if x6≥0 then(if(wrap64 (x4+x6))<(x449001.length:Int) then(if 0≤(wrap64 (x4+x6)) then(tribunalref02_To.l1 k x3 x4 (Go.bits .or .u64 (IntKind.u64.wrap (x5*65536)) (IntKind.u64.wrap (rd x449001 (wrap64 (x4+x6))))) (wrap64 (x6-1)) x449000 x449001) else(none)) else(tribunalref02_To.l1 k x3 x4 (IntKind.u64.wrap (x5*65536)) (wrap64 (x6-1)) x449000 x449001)) else(if x3.length<17592186044416 then(tribunalref02_To.l0 k (x3++[x5]) (wrap64 (x4+4)) x449000 x449001) else(none))
end
def tribunalref02_To.f (k:Nat) (a0_0:Bool) (l0_1:List Int):Option (Bool×List Int):=tribunalref02_To.l0 k ([]:List Int) 0 a0_0 l0_1
theorem tribunalref02_To.calls (k:Nat) (a0_0:Bool) (A0_1:Option Addr) (c0_1:Nat) (l0_1:List Int) (r1:Bool) (r2:List Int) (w:World) (hr0_1:Kd.C (Kd.int .u16) w A0_1 l0_1.length l0_1) (hc0_1:l0_1.length≤c0_1) (h:tribunalref02_To.f k a0_0 l0_1=some (r1,r2)) :
  Calls Tryz.prog 65 #[.agg #[.bool a0_0,.slice A0_1 l0_1.length c0_1]] w fun e w'=>∃v1_:Value,e=.returned (.agg #[.bool r1,v1_])∧Kd.R (Kd.int .u64) 72 w' w.heap.size (fun _=>True) v1_ r2∧Below w.heap.size w w':=by
 have hu85:=Tryz.underlying85
 have hu26:=Tryz.underlying26
 have HR0_1:=Aside0.mk hr0_1
 have HC0_1:=Aside0.mk hc0_1
 clear hr0_1 hc0_1
 have HB:=Aside0.mk (Below.refl w.heap.size w)
 have H:(tribunalref02_To.l0 k ([]:List Int) 0 a0_0 l0_1)=some (r1,r2):=h
 clear h
 have H':=Aside0.mk H
 clear H
 go_enter Tryz.func65,Tryz.ntmps65
 go_wp2_with (first|(refine gd 1 rfl ?_;refine kbe 1 #[.bool a0_0,.slice A0_1 l0_1.length c0_1] 85 ?_;intro gb448 hg w2 hbox hb;have BK448:=Aside0.mk (hbox);have GW448:=kbz hg HB;have GE448:=kbz hg HB;replace HB:=kbs HB hb;clear hb hbox hg)|(refine gd 2 rfl ?_;refine kbe 2 #[.bool false,.slice none 0 0] 26 ?_;intro gb449 hg w3 hbox hb;have BK449:=Aside0.mk (hbox);have GW449:=kbz hg HB;have GE449:=kbz hg HB;replace HB:=kbs HB hb;have NB448_449:=knl hg BK448;have NB449_448:=kng hg BK448;replace BK448:=kbb BK448 hb;clear hb hbox hg))
 go_loopg [3,4] k (fun kq v3 v4 w'=>∃(x3_1:List Int) (x4_1:Int),v4=.int .i64 x4_1∧Aside0 (tribunalref02_To.l0 kq x3_1 x4_1 a0_0 l0_1=some (r1,r2))∧Aside0 (kq≤k)∧Aside0 (Kd.R (Kd.int .u64) 72 w' w.heap.size (fun _=>True) v3 x3_1)∧Aside0 (w'.heap[gb448]? = some (.cells #[.bool a0_0,(.slice A0_1 l0_1.length c0_1)] 85 (0,0)))∧Aside0 (w'.heap[gb449]? = some (.cells #[.bool false,(.slice none 0 0)] 26 (0,0)))∧Aside0 (Below w.heap.size w w'))
 case atStart=>exact⟨(([]:List Int)),(0),(by first|rfl|(simp;done)|(simp[*];done)),H',⟨Nat.le_refl _⟩,⟨by first|exact Kd.R_nil _ _ _ _ _|exact Kd.N_nil _ _ _ _ _|exact Kd.V_nil _ _ _ _ _|exact Kd.Q_nil _ _ _ _ _|exact Kd.S_nil _ _ _ _ _⟩,⟨by(with_reducible repeat (first|refine blk_drewN ?_ _|refine blk_drew ?_|refine blk_alloc ?_ _));exact BK448.out⟩,⟨by(with_reducible repeat (first|refine blk_drewN ?_ _|refine blk_drew ?_|refine blk_alloc ?_ _));exact BK449.out⟩,⟨by repeat (first|(with_reducible first|exact HB.out|apply below_alloc|apply pw_below_drewN|apply below_drew1|refine below_set ?_ GE448.out|refine below_set ?_ GE449.out)|exact HB.out)⟩⟩
 case round=>
  clear H'
  try clear p2
  obtain⟨x3_1,x4_1,rfl,HA,HK1,HO_3,BK448,BK449,HB⟩:=hrel
  cases gk with
  | zero=>exact absurd HA.out (by simp[tribunalref02_To.l0])
  | succ k1=>
   have H:=HA.out
   clear HA
   simp only[tribunalref02_To.l0]at H
   by_cases c4:x4_1<(l0_1.length:Int)
   ·rw [if_pos c4]at H
    have c4b0:decide (x4_1<(l0_1.length:Int))=true:=decide_eq_true c4
    clear c4
    have H':=Aside0.mk H
    clear H
    have hnb5:=NB448_449.out
    have hnc5:=NB449_448.out
    have hcz6_0:wr.cell? ⟨gb448,0,none⟩=some (.bool a0_0):=(blk_cell BK448.out 0).trans rfl
    have hcz6_1:wr.cell? ⟨gb448,1,none⟩=some (.slice A0_1 l0_1.length c0_1):=(blk_cell BK448.out 1).trans rfl
    have hfz6_0:=blk_frozen BK448.out 0
    have hfz6_1:=blk_frozen BK448.out 1
    go_wp2
    go_loopg [5,6] k1 (fun kq v5 v6 w'=>∃(x5_2:Int) (x6_2:Int),v5=.int .u64 x5_2∧v6=.int .i64 x6_2∧Aside0 (tribunalref02_To.l1 kq x3_1 x4_1 x5_2 x6_2 a0_0 l0_1=some (r1,r2))∧Aside0 (kq≤k1)∧Aside0 (Kd.R (Kd.int .u64) 72 w' w.heap.size (fun _=>True) u3 x3_1)∧Aside0 (w'.heap[gb448]? = some (.cells #[.bool a0_0,(.slice A0_1 l0_1.length c0_1)] 85 (0,0)))∧Aside0 (w'.heap[gb449]? = some (.cells #[.bool false,(.slice none 0 0)] 26 (0,0)))∧Aside0 (Below w.heap.size w w'))
    case atStart=>exact⟨(0),(3),(by first|rfl|(simp;done)|(simp[*];done)),(by first|rfl|(simp;done)|(simp[*];done)),H',⟨Nat.le_refl _⟩,⟨kru HO_3.out⟩,⟨by(with_reducible repeat (first|refine blk_drewN ?_ _|refine blk_drew ?_|refine blk_alloc ?_ _));exact BK448.out⟩,⟨by(with_reducible repeat (first|refine blk_drewN ?_ _|refine blk_drew ?_|refine blk_alloc ?_ _));exact BK449.out⟩,⟨by repeat (first|(with_reducible first|exact HB.out|apply below_alloc|apply pw_below_drewN|apply below_drew1|refine below_set ?_ GE448.out|refine below_set ?_ GE449.out)|exact HB.out)⟩⟩
    case round=>
     clear H'
     try clear p2
     try clear c4
     try clear c4b0
     try clear c5
     try clear c6
     try clear hcz6_0
     try clear hcz6_1
     try clear hfz6_0
     try clear hfz6_1
     try clear p2
     obtain⟨x5_2,x6_2,rfl,rfl,HA,HK2,HO_3,BK448,BK449,HB⟩:=hrel
     cases gk with
     | zero=>exact absurd HA.out (by simp[tribunalref02_To.l1])
     | succ k2=>
      have H:=HA.out
      clear HA
      simp only[tribunalref02_To.l1]at H
      by_cases c7:x6_2≥0
      ·rw[if_pos c7]at H
       have c7b0:decide (0≤x6_2)=true:=decide_eq_true c7
       clear c7
       by_cases c8:(wrap64 (x4_1+x6_2))<(l0_1.length:Int)
       ·rw[if_pos c8]at H
        have c8b0:decide ((wrap64 (x4_1+x6_2))<(l0_1.length:Int))=true:=decide_eq_true c8
        clear c8
        obtain⟨ji9,hji9⟩:∃j_:Int,(wrap64 (x4_1+x6_2))=j_:=⟨_,rfl⟩
        replace H:(if 0≤(ji9) then(tribunalref02_To.l1 k2 x3_1 x4_1 (Go.bits .or .u64 (IntKind.u64.wrap (x5_2*65536)) (IntKind.u64.wrap (rd l0_1 (ji9)))) (wrap64 (x6_2-1)) a0_0 l0_1) else(none))=some (r1,r2):=by first|(rw[hji9]at H;exact H)|(simp only[hji9]at H ⊢;exact H)
        (try rw[hji9]at c8b0)
        have hji9w:(IntKind.i64.wrap (x4_1+x6_2))=ji9:=(i64_w _).trans hji9
        by_cases c10:0≤(ji9)
        ·rw[if_pos c10]at H
         have c10b0:decide (0≤(ji9))=true:=decide_eq_true c10
         clear c10
         have H':=Aside0.mk H
         clear H
         have hnb11:=NB448_449.out
         have hnc11:=NB449_448.out
         have hcz12_0:wr.cell? ⟨gb448,0,none⟩=some (.bool a0_0):=(blk_cell BK448.out 0).trans rfl
         have hcz12_1:wr.cell? ⟨gb448,1,none⟩=some (.slice A0_1 l0_1.length c0_1):=(blk_cell BK448.out 1).trans rfl
         have hfz12_0:=blk_frozen BK448.out 0
         have hfz12_1:=blk_frozen BK448.out 1
         have p450:0≤((ji9):Int):=of_decide_eq_true ‹_›
         have q450:(ji9)<(l0_1.length:Int):=of_decide_eq_true ‹_›
         obtain⟨ad450,e450,hx450_0⟩:=Kd.at_int HR0_1.out (ji9) p450 q450
         cases e450
         replace hx450_0:=(HB.out.cell (World.block_lt_of_cell? w _ hx450_0)).trans hx450_0
         replace p450:=eq_true p450
         replace q450:=eq_true q450
         go_wp2
         go_roundg k2
         case measure=>have:=HK1.out;have:=HK2.out;omega
         case rel=>exact⟨(Go.bits .or .u64 (IntKind.u64.wrap (x5_2*65536)) (IntKind.u64.wrap (rd l0_1 (ji9)))),(wrap64 (x6_2-1)),(by first|rfl|(simp;done)|(simp only[←hji9]<;>(first|rfl|simp))|(simp[*];done)),(by first|rfl|(simp;done)|(simp[*];done)),H',⟨by have:=HK1.out;have:=HK2.out;omega⟩,⟨kru HO_3.out⟩,⟨by(with_reducible repeat (first|refine blk_drewN ?_ _|refine blk_drew ?_|refine blk_alloc ?_ _));exact BK448.out⟩,⟨by(with_reducible repeat (first|refine blk_drewN ?_ _|refine blk_drew ?_|refine blk_alloc ?_ _));exact BK449.out⟩,⟨by repeat (first|(with_reducible first|exact HB.out|apply below_alloc|apply pw_below_drewN|apply below_drew1|refine below_set ?_ GE448.out|refine below_set ?_ GE449.out)|exact HB.out)⟩⟩
        rw[if_neg c10]at H
        exact absurd H (by simp)
       rw[if_neg c8]at H
       have c8b0:decide ((wrap64 (x4_1+x6_2))<(l0_1.length:Int))=false:=decide_eq_false c8
       clear c8
       have H':=Aside0.mk H
       clear H
       have hnb13:=NB448_449.out
       have hnc13:=NB449_448.out
       have hcz14_0:wr.cell? ⟨gb448,0,none⟩=some (.bool a0_0):=(blk_cell BK448.out 0).trans rfl
       have hcz14_1:wr.cell? ⟨gb448,1,none⟩=some (.slice A0_1 l0_1.length c0_1):=(blk_cell BK448.out 1).trans rfl
       have hfz14_0:=blk_frozen BK448.out 0
       have hfz14_1:=blk_frozen BK448.out 1
       go_wp2
       go_roundg k2
       case measure=>have:=HK1.out;have:=HK2.out;omega
       case rel=>exact⟨(IntKind.u64.wrap (x5_2*65536)),(wrap64 (x6_2-1)),(by first|rfl|(simp;done)|(simp[*];done)),(by first|rfl|(simp;done)|(simp[*];done)),H',⟨by have:=HK1.out;have:=HK2.out;omega⟩,⟨kru HO_3.out⟩,⟨by(with_reducible repeat (first|refine blk_drewN ?_ _|refine blk_drew ?_|refine blk_alloc ?_ _));exact BK448.out⟩,⟨by(with_reducible repeat (first|refine blk_drewN ?_ _|refine blk_drew ?_|refine blk_alloc ?_ _));exact BK449.out⟩,⟨by repeat (first|(with_reducible first|exact HB.out|apply below_alloc|apply pw_below_drewN|apply below_drew1|refine below_set ?_ GE448.out|refine below_set ?_ GE449.out)|exact HB.out)⟩⟩
      rw[if_neg c7]at H
      have c7b0:decide (0≤x6_2)=false:=decide_eq_false c7
      clear c7
      by_cases c15:x3_1.length<17592186044416
      ·rw[if_pos c15]at H
       have LMc15:=Aside0.mk c15
       clear c15
       obtain⟨y451,hy451⟩:∃y_:List Int,y_=(x3_1++[x5_2]):=⟨_,rfl⟩
       replace H:(tribunalref02_To.l0 k2 y451 (wrap64 (x4_1+4)) a0_0 l0_1)=some (r1,r2):=by first|(rw[hy451];with_reducible exact H)|(have H2_:=(Option.bind_some _ _).symm.trans H;rw[hy451];with_reducible exact H2_)|(have H2_:=(Option.bind_some _ _).symm.trans H;with_reducible exact H2_)|with_reducible exact H|(rw[hy451];exact H)|exact H
       have Ny451:=Aside0.mk hy451
       clear hy451
       have H':=Aside0.mk H
       clear H
       go_wp2_with (first|((with_reducible refine gate_builtin (b:=.append) (xs:=#[.tmp 37,.tmp 39]) rfl ?_);at_builtin;refine Kd.R_append (Kd.int .u64) (w0:=w) w.heap.size rfl (.tmp 37) (.tmp 39) 24 72 (.int .u64 0) 8 rfl Tryz.underlying24 info72 rfl (by decide) (by omega) u3 x3_1 x5_2 [.int .u64 x5_2] (fun _=>True) (fun _=>False) rfl rfl ?aP (fun _ hk=>hk.elim) ?aF ?aO ?aB ?aS ?aL ?_;(case aP=>exact rfl);(case aB=>exact(khu HB.out));(case aF=>exact(fun _ _=>trivial));(case aO=>exact(kru HO_3.out));(case aS=>exact(below_size (khu HB.out)));(case aL=>have:=LMc15.out;omega);intro v452 w16 ho hb hg hat;rw[←Ny451.out]at ho;replace BK448:=Aside0.mk (blk_grown (g:=gb448) (o:=.cells #[.bool a0_0,.slice A0_1 l0_1.length c0_1] 85 (0,0)) (kbu BK448.out) hg (Kd.R_ne HO_3.out BK448.out (by decide)));replace BK449:=Aside0.mk (blk_grown (g:=gb449) (o:=.cells #[.bool false,.slice none 0 0] 26 (0,0)) (kbu BK449.out) hg (Kd.R_ne HO_3.out BK449.out (by decide)));replace HB:=Aside0.mk (hb);have HO453:=Aside0.mk (ho);clear HO_3;clear ho hb hg hat))
       go_roundg k2
       case measure=>have:=HK1.out;have:=HK2.out;omega
       case rel=>exact⟨(y451),(wrap64 (x4_1+4)),(by first|rfl|(simp;done)|(simp[*];done)),H',⟨by have:=HK1.out;have:=HK2.out;omega⟩,⟨kru HO453.out⟩,⟨by(with_reducible repeat (first|refine blk_drewN ?_ _|refine blk_drew ?_|refine blk_alloc ?_ _));exact BK448.out⟩,⟨by(with_reducible repeat (first|refine blk_drewN ?_ _|refine blk_drew ?_|refine blk_alloc ?_ _));exact BK449.out⟩,⟨by repeat (first|(with_reducible first|exact HB.out|apply below_alloc|apply pw_below_drewN|apply below_drew1|refine below_set ?_ GE448.out|refine below_set ?_ GE449.out)|exact HB.out)⟩⟩
      rw[if_neg c15]at H
      exact absurd H (by simp)
   rw[if_neg c4]at H
   have c4b0:decide (x4_1<(l0_1.length:Int))=false:=decide_eq_false c4
   clear c4
   simp only[Option.some.injEq,Prod.mk.injEq]at H
   obtain⟨rfl,rfl⟩:=H
   have hnb17:=NB448_449.out
   have hnc17:=NB449_448.out
   have hcz18_0:wr.cell? ⟨gb448,0,none⟩=some (.bool a0_0):=(blk_cell BK448.out 0).trans rfl
   have hcz18_1:wr.cell? ⟨gb448,1,none⟩=some (.slice A0_1 l0_1.length c0_1):=(blk_cell BK448.out 1).trans rfl
   have hfz18_0:=blk_frozen BK448.out 0
   have hfz18_1:=blk_frozen BK448.out 1
   obtain⟨Ao19,co19,eo19⟩:=Kd.R_slice HO_3.out
   subst eo19
   have hcz20_0:wr.cell? ⟨gb449,0,none⟩=some (.bool false):=(blk_cell BK449.out 0).trans rfl
   have hcz20_1:wr.cell? ⟨gb449,1,none⟩=some (.slice none 0 0):=(blk_cell BK449.out 1).trans rfl
   have hfz20_0:=blk_frozen BK449.out 0
   have hfz20_1:=blk_frozen BK449.out 1
   go_wp2
   refine bodyPost_ret (results_cell_row rfl _ _ gb449 26 #[.bool a0_0,.slice Ao19 x3_1.length co19] (0,0) _ rfl (kpu #[.bool a0_0,.slice none 0 0] 1 (kpu #[.bool false,.slice none 0 0] 0 (kbu BK449.out))) Tryz.underlying26 rfl (by kernel_rfl)) rfl ?_
   exact⟨_,by first|rfl|(simp[*,errW_none,errW_some]<;>rfl),by(with_reducible repeat (first|apply Kd.R_alloc|apply Kd.R_drewN|apply Kd.R_drew));exact Kd.R_mono (Kd.R_far (p:=⟨gb449,1,none⟩) (Kd.R_far (p:=⟨gb449,0,none⟩) (Kd.R_types HO_3.out BK449.out (by decide)) (fun _ hk=>hk.2) (.bool a0_0)) (fun _ hk=>hk.2) (.slice Ao19 x3_1.length co19)) (fun _ hk=>trivial),by repeat (first|(with_reducible first|exact HB.out|apply below_alloc|apply pw_below_drewN|apply below_drew1|refine below_set ?_ GE448.out|refine below_set ?_ GE449.out)|exact HB.out)⟩
end Go.Proofs.YtikencoikigllaaGreatDoor.PRy
namespace Go.Proofs.YtikencoikigllaaGreatDoor.PRy
open Go.RowKit Go.Proofs.YtikencoikigllaaGreatDoorW.PrintWords Go.Proofs.YtikencoikigllaaGreatDoorW.PrintLast Go.Proofs.YtikencoikigllaaGreatDoorW.PrintMore
open Go.Proofs.YtikencoikigllaaGreatDoor.Mine
attribute [local go_sem] max2_int min2_int max_two min_two max_three min_three max_four min_four
def tribunalref02_Small1.f (k:Nat) (a0:Int):Option (Bool×List Int):=if a0<0 then((tribunalref02_Make.f k true (([IntKind.u16.wrap (IntKind.u64.wrap (-(IntKind.u64.wrap (a0)))),IntKind.u16.wrap ((IntKind.u64.wrap (-(IntKind.u64.wrap (a0))))/65536),IntKind.u16.wrap ((IntKind.u64.wrap (-(IntKind.u64.wrap (a0))))/4294967296),IntKind.u16.wrap ((IntKind.u64.wrap (-(IntKind.u64.wrap (a0))))/281474976710656)]:List Int))).bind fun bt458=>(some (bt458.1,bt458.2))) else((tribunalref02_Make.f k false (([IntKind.u16.wrap (IntKind.u64.wrap (a0)),IntKind.u16.wrap ((IntKind.u64.wrap (a0))/65536),IntKind.u16.wrap ((IntKind.u64.wrap (a0))/4294967296),IntKind.u16.wrap ((IntKind.u64.wrap (a0))/281474976710656)]:List Int))).bind fun bt465=>(some (bt465.1,bt465.2)))
theorem tribunalref02_Small1.calls (k:Nat) (a0:Int) (r1:Bool) (r2:List Int) (w:World) (h:tribunalref02_Small1.f k a0=some (r1,r2)) :
  Calls Tryz.prog 117 #[.int .i64 a0] w fun e w'=>∃v1_:Value,e=.returned (.agg #[.bool r1,v1_])∧Kd.V (Kd.int .u16) 115 w' w.heap.size (fun k_=>(w.heap.size≤k_)) v1_ r2∧Below w.heap.size w w':=by
 have hu85:=Tryz.underlying85
 have HB:=Aside0.mk (Below.refl w.heap.size w)
 have H:(if a0<0 then((tribunalref02_Make.f k true (([IntKind.u16.wrap (IntKind.u64.wrap (-(IntKind.u64.wrap (a0)))),IntKind.u16.wrap ((IntKind.u64.wrap (-(IntKind.u64.wrap (a0))))/65536),IntKind.u16.wrap ((IntKind.u64.wrap (-(IntKind.u64.wrap (a0))))/4294967296),IntKind.u16.wrap ((IntKind.u64.wrap (-(IntKind.u64.wrap (a0))))/281474976710656)]:List Int))).bind fun bt458=>(some (bt458.1,bt458.2))) else((tribunalref02_Make.f k false (([IntKind.u16.wrap (IntKind.u64.wrap (a0)),IntKind.u16.wrap ((IntKind.u64.wrap (a0))/65536),IntKind.u16.wrap ((IntKind.u64.wrap (a0))/4294967296),IntKind.u16.wrap ((IntKind.u64.wrap (a0))/281474976710656)]:List Int))).bind fun bt465=>(some (bt465.1,bt465.2))))=some (r1,r2):=h
 clear h
 by_cases c2:a0<0
 ·rw[if_pos c2]at H
  have c2b0:decide (a0<0)=true:=decide_eq_true c2
  clear c2
  obtain⟨y455,hy455⟩:∃y_:List Int,y_=(([IntKind.u16.wrap (IntKind.u64.wrap (-(IntKind.u64.wrap (a0)))),IntKind.u16.wrap ((IntKind.u64.wrap (-(IntKind.u64.wrap (a0))))/65536),IntKind.u16.wrap ((IntKind.u64.wrap (-(IntKind.u64.wrap (a0))))/4294967296),IntKind.u16.wrap ((IntKind.u64.wrap (-(IntKind.u64.wrap (a0))))/281474976710656)]:List Int)):=⟨_,rfl⟩
  replace H:((tribunalref02_Make.f k true y455).bind fun bt458=>(some (bt458.1,bt458.2)))=some (r1,r2):=by first|(rw[hy455];with_reducible exact H)|(have H2_:=(Option.bind_some _ _).symm.trans H;rw[hy455];with_reducible exact H2_)|(have H2_:=(Option.bind_some _ _).symm.trans H;with_reducible exact H2_)|with_reducible exact H|(rw[hy455];exact H)|exact H
  have Ny455:=Aside0.mk hy455
  clear hy455
  replace H:=Option.bind_eq_some_iff.mp H
  obtain⟨⟨t458,t459⟩,A30,H⟩:=H
  replace H:(some (t458,t459))=some (r1,r2):=H
  have A3:=Aside0.mk A30
  clear A30
  simp only[Option.some.injEq,Prod.mk.injEq]at H
  obtain⟨rfl,rfl⟩:=H
  go_enter Tryz.func117,Tryz.ntmps117
  go_wp2_with (first|(refine gd 2 rfl ?_;refine kbe 2 #[.bool false,.slice none 0 0] 85 ?_;intro gb454 hg w4 hbox hb;have BK454:=Aside0.mk (hbox);have GW454:=kbz hg HB;have GE454:=kbz hg HB;replace HB:=kbs HB hb;clear hb hbox hg)|(refine gd 23 rfl ?_;refine Kd.R_lit (Kd.int .u16) _ 115 ?hg (N:=23) ?hd (xs:=([IntKind.u16.wrap (IntKind.u64.wrap (-(IntKind.u64.wrap (a0)))),IntKind.u16.wrap ((IntKind.u64.wrap (-(IntKind.u64.wrap (a0))))/65536),IntKind.u16.wrap ((IntKind.u64.wrap (-(IntKind.u64.wrap (a0))))/4294967296),IntKind.u16.wrap ((IntKind.u64.wrap (-(IntKind.u64.wrap (a0))))/281474976710656)]:List Int)) (inner:=[.int .u16 (IntKind.u16.wrap (IntKind.u64.wrap (-(IntKind.u64.wrap (a0))))),.int .u16 (IntKind.u16.wrap ((IntKind.u64.wrap (-(IntKind.u64.wrap (a0))))/65536)),.int .u16 (IntKind.u16.wrap ((IntKind.u64.wrap (-(IntKind.u64.wrap (a0))))/4294967296)),.int .u16 (IntKind.u16.wrap ((IntKind.u64.wrap (-(IntKind.u64.wrap (a0))))/281474976710656))]) (ok:=fun _=>True) (okp:=fun _=>True) ?hr ?hp (fun _ hk=>hk) trivial (Below.refl _ _) (Nat.le_refl _) (by simp) ?_;(case hd=>rfl);(case hg=>rfl);(case hr=>first|(go_simp;done)|(go_simp;rfl));(case hp=>exact(Reps.one (show Kd.M (Kd.int .u16) _ _ _ (IntKind.u16.wrap (IntKind.u64.wrap (-(IntKind.u64.wrap (a0))))) [.int .u16 (IntKind.u16.wrap (IntKind.u64.wrap (-(IntKind.u64.wrap (a0)))))] from rfl) (Reps.one (show Kd.M (Kd.int .u16) _ _ _ (IntKind.u16.wrap ((IntKind.u64.wrap (-(IntKind.u64.wrap (a0))))/65536)) [.int .u16 (IntKind.u16.wrap ((IntKind.u64.wrap (-(IntKind.u64.wrap (a0))))/65536))] from rfl) (Reps.one (show Kd.M (Kd.int .u16) _ _ _ (IntKind.u16.wrap ((IntKind.u64.wrap (-(IntKind.u64.wrap (a0))))/4294967296)) [.int .u16 (IntKind.u16.wrap ((IntKind.u64.wrap (-(IntKind.u64.wrap (a0))))/4294967296))] from rfl) (Reps.one (show Kd.M (Kd.int .u16) _ _ _ (IntKind.u16.wrap ((IntKind.u64.wrap (-(IntKind.u64.wrap (a0))))/281474976710656)) [.int .u16 (IntKind.u16.wrap ((IntKind.u64.wrap (-(IntKind.u64.wrap (a0))))/281474976710656))] from rfl) (Reps.none _ _))))));intro v456 w5 ho6 hb hg_ hnew_;clear hg_ hnew_;(first|rw[←Ny455.out]at ho6|(simp only[Int.reduceToNat]at ho6;rw[←Ny455.out]at ho6));have HO457:=Aside0.mk (Kd.R_lower (Kd.R_newM (M:=fun k_=>(w.heap.size≤k_)) ho6 (below_size (khu HB.out)) (fun k_ h_=>h_)) (below_size (khu HB.out)));replace BK454:=kbb BK454 hb;replace HB:=kbs HB hb;clear hb ho6;obtain⟨Ao7,co7,eo7⟩:=Kd.R_slice HO457.out;subst eo7)|((with_reducible refine gate_callee (f:=51) rfl ?_);refine kgl (some 24) rfl rfl Tryz.func51 #[.bool true,.slice Ao7 y455.length co7] rfl ?_;(with_reducible refine(tribunalref02_Make.calls k true (fun k_=>some k_=(.slice Ao7 y455.length co7:Value).ownBlock) _ _ y455 t458 t459 _ ?side1 A3.out).mono ?_);(case side1=>exact Kd.R_V (Kd.R_tight rfl (Kd.R_types (HO457.out) BK454.out (by decide))));rintro e w8 ⟨v460,rfl,ho0,hb⟩;refine⟨_,rfl,?_⟩;have HO461:=Aside0.mk (Kd.V_lower (Kd.V_mono (ok':=fun k_=>(w.heap.size≤k_)∧k_≠gb454) ho0 (fun k_ hk_=>⟨Or.elim hk_ (fun hs_=>((Kd.R_types (HO457.out) BK454.out (by decide)).1 k_ hs_.symm).1.1) (fun hn_=>(Nat.le_trans (below_size (khu HB.out)) hn_)),Or.elim hk_ (fun hs_=>((Kd.R_types (HO457.out) BK454.out (by decide)).1 k_ hs_.symm).2) (kfb BK454)⟩)) (below_size (khu HB.out)));replace HO457:=krb HO457 hb;replace BK454:=kbb BK454 hb;replace HB:=kbs HB hb;(try clear hb);(try clear hb2);(try clear hk);(try clear hi);(try clear ho0);have hcz9_0:w8.cell? ⟨gb454,0,none⟩=some (.bool false):=(blk_cell BK454.out 0).trans rfl;have hcz9_1:w8.cell? ⟨gb454,1,none⟩=some (.slice none 0 0):=(blk_cell BK454.out 1).trans rfl;have hfz9_0:=blk_frozen BK454.out 0;have hfz9_1:=blk_frozen BK454.out 1;obtain⟨Ao10,co10,eo10⟩:=Kd.V_slice HO461.out;subst eo10))
  refine bodyPost_ret (results_cell_row rfl _ _ gb454 85 #[.bool t458,.slice Ao10 t459.length co10] (0,0) _ rfl (kpu #[.bool t458,.slice none 0 0] 1 (kpu #[.bool false,.slice none 0 0] 0 (kbu BK454.out))) Tryz.underlying85 rfl (by kernel_rfl)) rfl ?_
  exact⟨_,by first|rfl|(simp[*,errW_none,errW_some]<;>rfl),by(with_reducible repeat (first|apply Kd.V_alloc|apply Kd.V_drewN|apply Kd.V_drew));exact Kd.V_mono (Kd.V_far (p:=⟨gb454,1,none⟩) (Kd.V_far (p:=⟨gb454,0,none⟩) (Kd.V_mono HO461.out (fun k_ hk=>(⟨hk,hk.2⟩:_∧k_≠gb454))) (fun _ hk=>hk.2) (.bool t458)) (fun _ hk=>hk.2) (.slice Ao10 t459.length co10)) (fun _ hk=>hk.1.1),by repeat (first|(with_reducible first|exact HB.out|apply below_alloc|apply pw_below_drewN|apply below_drew1|refine below_set ?_ GE454.out)|exact HB.out)⟩
 rw[if_neg c2]at H
 have c2b0:decide (a0<0)=false:=decide_eq_false c2
 clear c2
 obtain⟨y462,hy462⟩:∃y_:List Int,y_=(([IntKind.u16.wrap (IntKind.u64.wrap (a0)),IntKind.u16.wrap ((IntKind.u64.wrap (a0))/65536),IntKind.u16.wrap ((IntKind.u64.wrap (a0))/4294967296),IntKind.u16.wrap ((IntKind.u64.wrap (a0))/281474976710656)]:List Int)):=⟨_,rfl⟩
 replace H:((tribunalref02_Make.f k false y462).bind fun bt465=>(some (bt465.1,bt465.2)))=some (r1,r2):=by first|(rw[hy462];with_reducible exact H)|(have H2_:=(Option.bind_some _ _).symm.trans H;rw[hy462];with_reducible exact H2_)|(have H2_:=(Option.bind_some _ _).symm.trans H;with_reducible exact H2_)|with_reducible exact H|(rw[hy462];exact H)|exact H
 have Ny462:=Aside0.mk hy462
 clear hy462
 replace H:=Option.bind_eq_some_iff.mp H
 obtain⟨⟨t465,t466⟩,A110,H⟩:=H
 replace H:(some (t465,t466))=some (r1,r2):=H
 have A11:=Aside0.mk A110
 clear A110
 simp only[Option.some.injEq,Prod.mk.injEq]at H
 obtain⟨rfl,rfl⟩:=H
 go_enter Tryz.func117,Tryz.ntmps117
 go_wp2_with (first|(refine gd 2 rfl ?_;refine kbe 2 #[.bool false,.slice none 0 0] 85 ?_;intro gb454 hg w12 hbox hb;have BK454:=Aside0.mk (hbox);have GW454:=kbz hg HB;have GE454:=kbz hg HB;replace HB:=kbs HB hb;clear hb hbox hg)|(refine gd 23 rfl ?_;refine Kd.R_lit (Kd.int .u16) _ 115 ?hg (N:=23) ?hd (xs:=([IntKind.u16.wrap (IntKind.u64.wrap (a0)),IntKind.u16.wrap ((IntKind.u64.wrap (a0))/65536),IntKind.u16.wrap ((IntKind.u64.wrap (a0))/4294967296),IntKind.u16.wrap ((IntKind.u64.wrap (a0))/281474976710656)]:List Int)) (inner:=[.int .u16 (IntKind.u16.wrap (IntKind.u64.wrap (a0))),.int .u16 (IntKind.u16.wrap ((IntKind.u64.wrap (a0))/65536)),.int .u16 (IntKind.u16.wrap ((IntKind.u64.wrap (a0))/4294967296)),.int .u16 (IntKind.u16.wrap ((IntKind.u64.wrap (a0))/281474976710656))]) (ok:=fun _=>True) (okp:=fun _=>True) ?hr ?hp (fun _ hk=>hk) trivial (Below.refl _ _) (Nat.le_refl _) (by simp) ?_;(case hd=>rfl);(case hg=>rfl);(case hr=>first|(go_simp;done)|(go_simp;rfl));(case hp=>exact(Reps.one (show Kd.M (Kd.int .u16) _ _ _ (IntKind.u16.wrap (IntKind.u64.wrap (a0))) [.int .u16 (IntKind.u16.wrap (IntKind.u64.wrap (a0)))] from rfl) (Reps.one (show Kd.M (Kd.int .u16) _ _ _ (IntKind.u16.wrap ((IntKind.u64.wrap (a0))/65536)) [.int .u16 (IntKind.u16.wrap ((IntKind.u64.wrap (a0))/65536))] from rfl) (Reps.one (show Kd.M (Kd.int .u16) _ _ _ (IntKind.u16.wrap ((IntKind.u64.wrap (a0))/4294967296)) [.int .u16 (IntKind.u16.wrap ((IntKind.u64.wrap (a0))/4294967296))] from rfl) (Reps.one (show Kd.M (Kd.int .u16) _ _ _ (IntKind.u16.wrap ((IntKind.u64.wrap (a0))/281474976710656)) [.int .u16 (IntKind.u16.wrap ((IntKind.u64.wrap (a0))/281474976710656))] from rfl) (Reps.none _ _))))));intro v463 w13 ho14 hb hg_ hnew_;clear hg_ hnew_;(first|rw[←Ny462.out]at ho14|(simp only[Int.reduceToNat]at ho14;rw[←Ny462.out]at ho14));have HO464:=Aside0.mk (Kd.R_lower (Kd.R_newM (M:=fun k_=>(w.heap.size≤k_)) ho14 (below_size (khu HB.out)) (fun k_ h_=>h_)) (below_size (khu HB.out)));replace BK454:=kbb BK454 hb;replace HB:=kbs HB hb;clear hb ho14;obtain⟨Ao15,co15,eo15⟩:=Kd.R_slice HO464.out;subst eo15)|((with_reducible refine gate_callee (f:=51) rfl ?_);refine kgl (some 24) rfl rfl Tryz.func51 #[.bool false,.slice Ao15 y462.length co15] rfl ?_;(with_reducible refine(tribunalref02_Make.calls k false (fun k_=>some k_=(.slice Ao15 y462.length co15:Value).ownBlock) _ _ y462 t465 t466 _ ?side1 A11.out).mono ?_);(case side1=>exact Kd.R_V (Kd.R_tight rfl (Kd.R_types (HO464.out) BK454.out (by decide))));rintro e w16 ⟨v467,rfl,ho0,hb⟩;refine⟨_,rfl,?_⟩;have HO468:=Aside0.mk (Kd.V_lower (Kd.V_mono (ok':=fun k_=>(w.heap.size≤k_)∧k_≠gb454) ho0 (fun k_ hk_=>⟨Or.elim hk_ (fun hs_=>((Kd.R_types (HO464.out) BK454.out (by decide)).1 k_ hs_.symm).1.1) (fun hn_=>(Nat.le_trans (below_size (khu HB.out)) hn_)),Or.elim hk_ (fun hs_=>((Kd.R_types (HO464.out) BK454.out (by decide)).1 k_ hs_.symm).2) (kfb BK454)⟩)) (below_size (khu HB.out)));replace HO464:=krb HO464 hb;replace BK454:=kbb BK454 hb;replace HB:=kbs HB hb;(try clear hb);(try clear hb2);(try clear hk);(try clear hi);(try clear ho0);have hcz17_0:w16.cell? ⟨gb454,0,none⟩=some (.bool false):=(blk_cell BK454.out 0).trans rfl;have hcz17_1:w16.cell? ⟨gb454,1,none⟩=some (.slice none 0 0):=(blk_cell BK454.out 1).trans rfl;have hfz17_0:=blk_frozen BK454.out 0;have hfz17_1:=blk_frozen BK454.out 1;obtain⟨Ao18,co18,eo18⟩:=Kd.V_slice HO468.out;subst eo18))
 refine bodyPost_ret (results_cell_row rfl _ _ gb454 85 #[.bool t465,.slice Ao18 t466.length co18] (0,0) _ rfl (kpu #[.bool t465,.slice none 0 0] 1 (kpu #[.bool false,.slice none 0 0] 0 (kbu BK454.out))) Tryz.underlying85 rfl (by kernel_rfl)) rfl ?_
 exact⟨_,by first|rfl|(simp[*,errW_none,errW_some]<;>rfl),by(with_reducible repeat (first|apply Kd.V_alloc|apply Kd.V_drewN|apply Kd.V_drew));exact Kd.V_mono (Kd.V_far (p:=⟨gb454,1,none⟩) (Kd.V_far (p:=⟨gb454,0,none⟩) (Kd.V_mono HO468.out (fun k_ hk=>(⟨hk,hk.2⟩:_∧k_≠gb454))) (fun _ hk=>hk.2) (.bool t465)) (fun _ hk=>hk.2) (.slice Ao18 t466.length co18)) (fun _ hk=>hk.1.1),by repeat (first|(with_reducible first|exact HB.out|apply below_alloc|apply pw_below_drewN|apply below_drew1|refine below_set ?_ GE454.out)|exact HB.out)⟩
def tribunalref02_timesD.l0:Nat→List Int→Int→List Int→Int→Int→Option (List Int)
 | 0,_,_,_,_,_=>none
 | k+1,x0,x1,x5,x6,x7=>if x7<(x0.length:Int) then(if 0≤x7 then(if x5.length<70368744177664 then(tribunalref02_timesD.l0 k x0 x1 (x5++[IntKind.u16.wrap ((x6+(((rd x0 x7)%4294967296)*x1))%4294967296)]) (((x6+(((rd x0 x7)%4294967296)*x1))%4294967296)/65536) (wrap64 (x7+1))) else(none)) else(none)) else(if x5.length<70368744177664 then((tribunalref02_trim.f k (x5++[IntKind.u16.wrap (x6)])).bind fun t476=>(some t476)) else(none))
def tribunalref02_timesD.f (k:Nat) (l0:List Int) (a1:Int):Option (List Int):=tribunalref02_timesD.l0 k l0 a1 ([]:List Int) 0 0
theorem tribunalref02_timesD.calls (k:Nat) (A0:Option Addr) (c0:Nat) (l0:List Int) (a1:Int) (r:List Int) (w:World) (hr0:Kd.C (Kd.int .u16) w A0 l0.length l0) (hc0:l0.length≤c0) (h:tribunalref02_timesD.f k l0 a1=some r) :
  Calls Tryz.prog 116 #[.slice A0 l0.length c0,.int .u32 a1] w fun e w'=>∃v0_:Value,e=.returned (v0_)∧Kd.V (Kd.int .u16) 115 w' w.heap.size (fun k_=>(w.heap.size≤k_)) v0_ r∧Below w.heap.size w w':=by
 have HR0:=Aside0.mk hr0
 have HC0:=Aside0.mk hc0
 clear hr0 hc0
 have HB:=Aside0.mk (Below.refl w.heap.size w)
 have H:(tribunalref02_timesD.l0 k l0 a1 ([]:List Int) 0 0)=some r:=h
 clear h
 have H':=Aside0.mk H
 clear H
 go_enter Tryz.func116,Tryz.ntmps116
 go_wp2
 go_loopg [5,6,7] k (fun kq v5 v6 v7 w'=>∃(x5_1:List Int) (x6_1:Int) (x7_1:Int),v6=.int .u32 x6_1∧v7=.int .i64 x7_1∧Aside0 (tribunalref02_timesD.l0 kq l0 a1 x5_1 x6_1 x7_1=some r)∧Aside0 (kq≤k)∧Aside0 (Kd.R (Kd.int .u16) 115 w' w.heap.size (fun k_=>(w.heap.size≤k_)) v5 x5_1)∧Aside0 (Below w.heap.size w w'))
 case atStart=>exact⟨(([]:List Int)),(0),(0),(by first|rfl|(simp;done)|(simp[*];done)),(by first|rfl|(simp;done)|(simp[*];done)),H',⟨Nat.le_refl _⟩,⟨by first|exact Kd.R_nil _ _ _ _ _|exact Kd.N_nil _ _ _ _ _|exact Kd.V_nil _ _ _ _ _|exact Kd.Q_nil _ _ _ _ _|exact Kd.S_nil _ _ _ _ _⟩,⟨khu HB.out⟩⟩
 case round=>
  clear H'
  try clear c1
  try clear p2
  obtain⟨x5_1,x6_1,x7_1,rfl,rfl,HA,HK1,HO_5,HB⟩:=hrel
  cases gk with
  | zero=>exact absurd HA.out (by simp[tribunalref02_timesD.l0])
  | succ k1=>
   have H:=HA.out
   clear HA
   simp only[tribunalref02_timesD.l0]at H
   by_cases c3:x7_1<(l0.length:Int)
   ·rw[if_pos c3]at H
    have c3b0:decide (x7_1<(l0.length:Int))=true:=decide_eq_true c3
    clear c3
    by_cases c4:0≤x7_1
    ·rw[if_pos c4]at H
     have c4b0:decide (0≤x7_1)=true:=decide_eq_true c4
     clear c4
     by_cases c5:x5_1.length<70368744177664
     ·rw[if_pos c5]at H
      have LMc5:=Aside0.mk c5
      clear c5
      obtain⟨y470,hy470⟩:∃y_:List Int,y_=(x5_1++[IntKind.u16.wrap ((x6_1+(((rd l0 x7_1)%4294967296)*a1))%4294967296)]):=⟨_,rfl⟩
      replace H:(tribunalref02_timesD.l0 k1 l0 a1 y470 (((x6_1+(((rd l0 x7_1)%4294967296)*a1))%4294967296)/65536) (wrap64 (x7_1+1)))=some r:=by first|(rw[hy470];with_reducible exact H)|(have H2_:=(Option.bind_some _ _).symm.trans H;rw[hy470];with_reducible exact H2_)|(have H2_:=(Option.bind_some _ _).symm.trans H;with_reducible exact H2_)|with_reducible exact H|(rw[hy470];exact H)|exact H
      have Ny470:=Aside0.mk hy470
      clear hy470
      have H':=Aside0.mk H
      clear H
      have p469:0≤(x7_1:Int):=of_decide_eq_true ‹_›
      have q469:x7_1<(l0.length:Int):=of_decide_eq_true ‹_›
      obtain⟨ad469,e469,hx469_0⟩:=Kd.at_int HR0.out x7_1 p469 q469
      cases e469
      replace hx469_0:=(HB.out.cell (World.block_lt_of_cell? w _ hx469_0)).trans hx469_0
      replace p469:=eq_true p469
      replace q469:=eq_true q469
      go_wp2_with (first|((with_reducible refine gate_builtin (b:=.append) (xs:=#[.tmp 23,.tmp 26]) rfl ?_);at_builtin;refine Kd.R_append (Kd.int .u16) (w0:=w) w.heap.size rfl (.tmp 23) (.tmp 26) 83 115 (.int .u16 0) 2 rfl Tryz.underlying83 info115 rfl (by decide) (by omega) u5 x5_1 (IntKind.u16.wrap ((x6_1+(((rd l0 x7_1)%4294967296)*a1))%4294967296)) [.int .u16 (IntKind.u16.wrap ((x6_1+(((rd l0 x7_1)%4294967296)*a1))%4294967296))] (fun k_=>(w.heap.size≤k_)) (fun _=>False) rfl rfl ?aP (fun _ hk=>hk.elim) ?aF ?aO ?aB ?aS ?aL ?_;(case aP=>exact rfl);(case aB=>exact(khu HB.out));(case aF=>exact(fun k_ hk=>(Nat.le_trans (below_size (khu HB.out)) hk)));(case aO=>exact(kru HO_5.out));(case aS=>exact(below_size (khu HB.out)));(case aL=>have:=LMc5.out;omega);intro v471 w6 ho hb hg hat;rw[←Ny470.out]at ho;replace HB:=Aside0.mk (hb);have HO472:=Aside0.mk (ho);clear HO_5;clear ho hb hg hat))
      go_roundg k1
      case measure=>have:=HK1.out;omega
      case rel=>exact⟨(y470),(((x6_1+(((rd l0 x7_1)%4294967296)*a1))%4294967296)/65536),(wrap64 (x7_1+1)),(by first|rfl|(simp;done)|(simp[*];done)),(by first|rfl|(simp;done)|(simp[*];done)),H',⟨by have:=HK1.out;omega⟩,⟨kru HO472.out⟩,⟨khu HB.out⟩⟩
     rw[if_neg c5]at H
     exact absurd H (by simp)
    rw[if_neg c4]at H
    exact absurd H (by simp)
   rw[if_neg c3]at H
   have c3b0:decide (x7_1<(l0.length:Int))=false:=decide_eq_false c3
   clear c3
   by_cases c7:x5_1.length<70368744177664
   ·rw[if_pos c7]at H
    have LMc7:=Aside0.mk c7
    clear c7
    obtain⟨y473,hy473⟩:∃y_:List Int,y_=(x5_1++[IntKind.u16.wrap (x6_1)]):=⟨_,rfl⟩
    replace H:((tribunalref02_trim.f k1 y473).bind fun t476=>(some t476))=some r:=by first|(rw[hy473];with_reducible exact H)|(have H2_:=(Option.bind_some _ _).symm.trans H;rw[hy473];with_reducible exact H2_)|(have H2_:=(Option.bind_some _ _).symm.trans H;with_reducible exact H2_)|with_reducible exact H|(rw[hy473];exact H)|exact H
    have Ny473:=Aside0.mk hy473
    clear hy473
    replace H:=Option.bind_eq_some_iff.mp H
    obtain⟨t476,A80,H⟩:=H
    replace H:(some t476)=some r:=H
    have A8:=Aside0.mk A80
    clear A80
    obtain rfl:=Option.some.inj H
    go_wp2_with (first|((with_reducible refine gate_builtin (b:=.append) (xs:=#[.tmp 30,.tmp 33]) rfl ?_);at_builtin;refine Kd.R_append (Kd.int .u16) (w0:=w) w.heap.size rfl (.tmp 30) (.tmp 33) 83 115 (.int .u16 0) 2 rfl Tryz.underlying83 info115 rfl (by decide) (by omega) u5 x5_1 (IntKind.u16.wrap (x6_1)) [.int .u16 (IntKind.u16.wrap (x6_1))] (fun k_=>(w.heap.size≤k_)) (fun _=>False) rfl rfl ?aP (fun _ hk=>hk.elim) ?aF ?aO ?aB ?aS ?aL ?_;(case aP=>exact rfl);(case aB=>exact(khu HB.out));(case aF=>exact(fun k_ hk=>(Nat.le_trans (below_size (khu HB.out)) hk)));(case aO=>exact(kru HO_5.out));(case aS=>exact(below_size (khu HB.out)));(case aL=>have:=LMc7.out;omega);intro v474 w9 ho hb hg hat;rw[←Ny473.out]at ho;replace HB:=Aside0.mk (hb);have HO475:=Aside0.mk (ho);clear HO_5;clear ho hb hg hat;obtain⟨Ao10,co10,eo10⟩:=Kd.R_slice HO475.out;subst eo10)|((with_reducible refine gate_callee (f:=118) rfl ?_);refine kgl (some 35) rfl rfl Tryz.func118 #[.slice Ao10 y473.length co10] rfl ?_;(with_reducible refine(tribunalref02_trim.calls k1 (fun k_=>some k_=(.slice Ao10 y473.length co10:Value).ownBlock) _ _ y473 t476 _ ?side1 A8.out).mono ?_);(case side1=>exact Kd.R_V (Kd.R_tight rfl (HO475.out)));rintro e w11 ⟨v477,rfl,ho0,hb⟩;refine⟨_,rfl,?_⟩;have HO478:=Aside0.mk (Kd.V_lower (Kd.V_mono (ok':=fun k_=>(w.heap.size≤k_)) ho0 (fun k_ hk_=>Or.elim hk_ (fun hs_=>((HO475.out).1 k_ hs_.symm)) (fun hn_=>(Nat.le_trans (below_size (khu HB.out)) hn_)))) (below_size (khu HB.out)));replace HO475:=krb HO475 hb;replace HB:=kbs HB hb;(try clear hb);(try clear hb2);(try clear hk);(try clear hi);(try clear ho0)))
    go_ret
    exact⟨_,by first|rfl|(simp[*,errW_none,errW_some]<;>rfl),kvu HO478.out,khu HB.out⟩
   rw[if_neg c7]at H
   exact absurd H (by simp)
def tribunalref02_cmpD.l0:Nat→List Int→List Int→Int→Option (Int)
 | 0,_,_,_=>none
 | k+1,x0,x1,x5=>if x5≥0 then(if 0≤x5 then(if x5<(x0.length:Int) then(if x5<(x1.length:Int) then(if(rd x0 x5)<(rd x1 x5) then(some (-1)) else(if(rd x0 x5)>(rd x1 x5) then(some 1) else(tribunalref02_cmpD.l0 k x0 x1 (wrap64 (x5-1))))) else(none)) else(none)) else(none)) else(some 0)
def tribunalref02_cmpD.f (k:Nat) (l0:List Int) (l1:List Int):Option (Int):=if(l0.length:Int)=(l1.length:Int) then(tribunalref02_cmpD.l0 k l0 l1 (wrap64 ((l0.length:Int)-1))) else(if(l0.length:Int)<(l1.length:Int) then(some (-1)) else(some 1))
theorem tribunalref02_cmpD.calls (k:Nat) (A0:Option Addr) (c0:Nat) (l0:List Int) (A1:Option Addr) (c1:Nat) (l1:List Int) (r:Int) (w:World) (hr0:Kd.C (Kd.int .u16) w A0 l0.length l0) (hc0:l0.length≤c0) (hr1:Kd.C (Kd.int .u16) w A1 l1.length l1) (hc1:l1.length≤c1) (h:tribunalref02_cmpD.f k l0 l1=some r) :
  Calls Tryz.prog 190 #[.slice A0 l0.length c0,.slice A1 l1.length c1] w fun e w'=>e=.returned (.int .i64 r)∧Drawn0 w w':=by
 have HR0:=Aside0.mk hr0
 have HC0:=Aside0.mk hc0
 clear hr0 hc0
 have HR1:=Aside0.mk hr1
 have HC1:=Aside0.mk hc1
 clear hr1 hc1
 have H:(if(l0.length:Int)=(l1.length:Int) then(tribunalref02_cmpD.l0 k l0 l1 (wrap64 ((l0.length:Int)-1))) else(if(l0.length:Int)<(l1.length:Int) then(some (-1)) else(some 1)))=some r:=h
 clear h
 by_cases c3:(l0.length:Int)=(l1.length:Int)
 ·rw [if_pos c3]at H
  have c3b0:((l0.length:Int)==(l1.length:Int))=true:=beq_iff_eq.mpr c3
  have c3b1:((l0.length:Int) != (l1.length:Int))=false:=bne_eq_false_iff_eq.mpr c3
  have c3b2:(l0.length==l1.length)=true:=by first|simpa using c3|(simp at c3 ⊢;omega)
  clear c3
  have H':=Aside0.mk H
  clear H
  go_enter Tryz.func190,Tryz.ntmps190
  go_wp2
  repeat (go_quiet (fail);try go_wp2)
  go_loopg [5] k (fun kq v5 w'=>∃(x5_1:Int),v5=.int .i64 x5_1∧Aside0 (tribunalref02_cmpD.l0 kq l0 l1 x5_1=some r)∧Aside0 (kq≤k)∧Drawn0 w w')
  case atStart=>exact⟨(wrap64 ((l0.length:Int)-1)),(by first|rfl|(simp;done)|(simp[*];done)),H',⟨Nat.le_refl _⟩,by repeat (first|exact Drawn0.refl _|apply Drawn0.step)⟩
  case round=>
   clear H'
   try clear c1
   try clear p2
   try clear c3
   try clear c3b0
   try clear c3b1
   try clear c3b2
   obtain⟨x5_1,rfl,HA,HK1,⟨m1,rfl⟩⟩:=hrel
   cases gk with
   | zero=>exact absurd HA.out (by simp[tribunalref02_cmpD.l0])
   | succ k1=>
    have H:=HA.out
    clear HA
    simp only[tribunalref02_cmpD.l0]at H
    by_cases c4:x5_1≥0
    ·rw [if_pos c4]at H
     have c4b0:decide (0≤x5_1)=true:=decide_eq_true c4
     clear c4
     by_cases c5:0≤x5_1
     ·rw [if_pos c5]at H
      have c5b0:decide (0≤x5_1)=true:=decide_eq_true c5
      clear c5
      by_cases c6:x5_1<(l0.length:Int)
      ·rw[if_pos c6]at H
       have c6b0:decide (x5_1<(l0.length:Int))=true:=decide_eq_true c6
       clear c6
       by_cases c7:x5_1<(l1.length:Int)
       ·rw[if_pos c7]at H
        have c7b0:decide (x5_1<(l1.length:Int))=true:=decide_eq_true c7
        clear c7
        by_cases c8:(rd l0 x5_1)<(rd l1 x5_1)
        ·rw[if_pos c8]at H
         have c8b0:decide ((rd l0 x5_1)<(rd l1 x5_1))=true:=decide_eq_true c8
         clear c8
         obtain rfl:=Option.some.inj H
         have p479:0≤(x5_1:Int):=of_decide_eq_true ‹_›
         have q479:x5_1<(l0.length:Int):=of_decide_eq_true ‹_›
         obtain⟨ad479,e479,hx479_0⟩:=Kd.at_int HR0.out x5_1 p479 q479
         cases e479
         replace p479:=eq_true p479
         replace q479:=eq_true q479
         have p480:0≤(x5_1:Int):=of_decide_eq_true ‹_›
         have q480:x5_1<(l1.length:Int):=of_decide_eq_true ‹_›
         obtain⟨ad480,e480,hx480_0⟩:=Kd.at_int HR1.out x5_1 p480 q480
         cases e480
         replace p480:=eq_true p480
         replace q480:=eq_true q480
         go_wp2
         repeat (go_quiet (fail);try go_wp2)
         go_ret
         exact⟨by first|rfl|(simp;done)|(simp[*];done),by repeat (first|exact Drawn0.refl _|apply Drawn0.step)⟩
        rw[if_neg c8]at H
        have c8b0:decide ((rd l0 x5_1)<(rd l1 x5_1))=false:=decide_eq_false c8
        clear c8
        by_cases c9:(rd l0 x5_1)>(rd l1 x5_1)
        ·rw[if_pos c9]at H
         have c9b0:decide ((rd l1 x5_1)<(rd l0 x5_1))=true:=decide_eq_true c9
         clear c9
         obtain rfl:=Option.some.inj H
         have p479:0≤(x5_1:Int):=of_decide_eq_true ‹_›
         have q479:x5_1<(l0.length:Int):=of_decide_eq_true ‹_›
         obtain⟨ad479,e479,hx479_0⟩:=Kd.at_int HR0.out x5_1 p479 q479
         cases e479
         replace p479:=eq_true p479
         replace q479:=eq_true q479
         have p480:0≤(x5_1:Int):=of_decide_eq_true ‹_›
         have q480:x5_1<(l1.length:Int):=of_decide_eq_true ‹_›
         obtain⟨ad480,e480,hx480_0⟩:=Kd.at_int HR1.out x5_1 p480 q480
         cases e480
         replace p480:=eq_true p480
         replace q480:=eq_true q480
         have p481:0≤(x5_1:Int):=of_decide_eq_true ‹_›
         have q481:x5_1<(l0.length:Int):=of_decide_eq_true ‹_›
         obtain⟨ad481,e481,hx481_0⟩:=Kd.at_int HR0.out x5_1 p481 q481
         obtain rfl:ad479=ad481:=(by injection e481)
         replace p481:=eq_true p481
         replace q481:=eq_true q481
         have p482:0≤(x5_1:Int):=of_decide_eq_true ‹_›
         have q482:x5_1<(l1.length:Int):=of_decide_eq_true ‹_›
         obtain⟨ad482,e482,hx482_0⟩:=Kd.at_int HR1.out x5_1 p482 q482
         obtain rfl:ad480=ad482:=(by injection e482)
         replace p482:=eq_true p482
         replace q482:=eq_true q482
         go_wp2
         repeat (go_quiet (fail);try go_wp2)
         go_ret
         exact⟨by first|rfl|(simp;done)|(simp[*];done),by repeat (first|exact Drawn0.refl _|apply Drawn0.step)⟩
        rw[if_neg c9]at H
        have c9b0:decide ((rd l1 x5_1)<(rd l0 x5_1))=false:=decide_eq_false c9
        clear c9
        have H':=Aside0.mk H
        clear H
        have p479:0≤(x5_1:Int):=of_decide_eq_true ‹_›
        have q479:x5_1<(l0.length:Int):=of_decide_eq_true ‹_›
        obtain⟨ad479,e479,hx479_0⟩:=Kd.at_int HR0.out x5_1 p479 q479
        cases e479
        replace p479:=eq_true p479
        replace q479:=eq_true q479
        have p480:0≤(x5_1:Int):=of_decide_eq_true ‹_›
        have q480:x5_1<(l1.length:Int):=of_decide_eq_true ‹_›
        obtain⟨ad480,e480,hx480_0⟩:=Kd.at_int HR1.out x5_1 p480 q480
        cases e480
        replace p480:=eq_true p480
        replace q480:=eq_true q480
        have p481:0≤(x5_1:Int):=of_decide_eq_true ‹_›
        have q481:x5_1<(l0.length:Int):=of_decide_eq_true ‹_›
        obtain⟨ad481,e481,hx481_0⟩:=Kd.at_int HR0.out x5_1 p481 q481
        obtain rfl:ad479=ad481:=(by injection e481)
        replace p481:=eq_true p481
        replace q481:=eq_true q481
        have p482:0≤(x5_1:Int):=of_decide_eq_true ‹_›
        have q482:x5_1<(l1.length:Int):=of_decide_eq_true ‹_›
        obtain⟨ad482,e482,hx482_0⟩:=Kd.at_int HR1.out x5_1 p482 q482
        obtain rfl:ad480=ad482:=(by injection e482)
        replace p482:=eq_true p482
        replace q482:=eq_true q482
        go_wp2
        repeat (go_quiet (fail);try go_wp2)
        go_roundg k1
        case measure=>have:=HK1.out;omega
        case rel=>exact⟨(wrap64 (x5_1-1)),(by first|rfl|(simp;done)|(simp[*];done)),H',⟨by have:=HK1.out;omega⟩,by repeat (first|exact Drawn0.refl _|apply Drawn0.step)⟩
       rw[if_neg c7]at H
       exact absurd H (by simp)
      rw[if_neg c6]at H
      exact absurd H (by simp)
     rw[if_neg c5]at H
     exact absurd H (by simp)
    rw[if_neg c4]at H
    have c4b0:decide (0≤x5_1)=false:=decide_eq_false c4
    clear c4
    obtain rfl:=Option.some.inj H
    go_wp2
    repeat (go_quiet (fail);try go_wp2)
    go_ret
    exact⟨by first|rfl|(simp;done)|(simp[*];done),by repeat (first|exact Drawn0.refl _|apply Drawn0.step)⟩
 rw[if_neg c3]at H
 have c3b0:((l0.length:Int)==(l1.length:Int))=false:=beq_eq_false_iff_ne.mpr c3
 have c3b1:((l0.length:Int) != (l1.length:Int))=true:=bne_iff_ne.mpr c3
 have c3b2:(l0.length==l1.length)=false:=by first|simpa using c3|(simp at c3 ⊢;omega)
 by_cases c10:(l0.length:Int)<(l1.length:Int)
 ·rw[if_pos c10]at H
  have c10b0:decide ((l0.length:Int)<(l1.length:Int))=true:=decide_eq_true c10
  have c10b1:decide (l0.length<l1.length)=true:=decide_eq_true (Int.ofNat_lt.mp c10)
  clear c10
  obtain rfl:=Option.some.inj H
  go_enter Tryz.func190,Tryz.ntmps190
  go_wp2
  repeat (go_quiet (fail);try go_wp2)
  go_ret
  exact⟨by first|rfl|(simp;done)|(simp[*];done),by repeat (first|exact Drawn0.refl _|apply Drawn0.step)⟩
 rw[if_neg c10]at H
 have c10b0:decide ((l0.length:Int)<(l1.length:Int))=false:=decide_eq_false c10
 have c10b1:decide (l0.length<l1.length)=false:=decide_eq_false (fun h=>c10 (Int.ofNat_lt.mpr h))
 clear c10
 obtain rfl:=Option.some.inj H
 go_enter Tryz.func190,Tryz.ntmps190
 go_wp2
 repeat (go_quiet (fail);try go_wp2)
 go_ret
 exact⟨by first|rfl|(simp;done)|(simp[*];done),by repeat (first|exact Drawn0.refl _|apply Drawn0.step)⟩
end Go.Proofs.YtikencoikigllaaGreatDoor.PRy
