/- Part 1 of what the card rests on. -/
import Derived.Test.YtncomlmhagaajaaGreatRows
import Derived.Test.YtncomlmhagaajaaGreatProg
import Derived.Below
import Derived.OwnWalk
import Derived.Laws.MakeOwn
import Derived.Laws.Externs
import Derived.Shelf.Spec.BitsCarry
import Derived.WalkKit
import Derived.KernelRfl
import Derived.RowKit3
import Derived.Lib.AppendStr
import Derived.WideLaws
import Derived.WalkSpells
import Derived.Lib.LazyBuf
import Derived.Deep.LoopGhost
import Derived.Deep.QuietTactic
import Derived.BigQuiet
import Derived.ArgAppend
import Derived.Shelf.Small.Bits
import Derived.Shelf.Strconv.Itoa0
import Derived.Shelf.Bits.Mul64
import Derived.Ground.SlgfProg
import Derived.Shelf.SlicesE.IndexFunc
import Derived.Deep.Draws
import Derived.Deep.AppendLies
import Derived.Maps.AppendAt
import Derived.Laws.BytesArg
import Derived.Laws.OwnMore
import Derived.Deep.OwnRows
import Derived.Tactics
import Derived.Lib.ConvBytes
import Derived.Laws.Slices
import Derived.Deep.DeepCutAuto
import Derived.Deep.CutBlock
import Derived.Deep.RegionHeld3
import Derived.Laws.Rows
import Derived.Laws.IdiomCopy
import Derived.OrdersHeld
import Derived.Laws.BitsLemmas
import Derived.RowKit
import Derived.Deep.RegionWith
import Derived.Test.YtncomlmhagaajaaGreatCm0
set_option maxHeartbeats 8000000
set_option maxRecDepth 100000
set_option linter.unusedVariables false
set_option linter.unusedSimpArgs false
namespace Go.Proofs.YtncomlmhagaajaaGreat.bulks
theorem one_le {H:Type} (d:DataW H):1≤Rows.uptoBulk d:=by
 cases d with
 | lit l=>cases l<;>simp[Rows.uptoBulk]
 | nil=>simp[Rows.uptoBulk]
 | ptr d=>simp[Rows.uptoBulk]
 | slice elems spare=>simp[Rows.uptoBulk]
 | agg parts=>simp[Rows.uptoBulk]
 | iface t d=>simp[Rows.uptoBulk]
 | map entries=>simp[Rows.uptoBulk]
 | held h=>simp[Rows.uptoBulk]
theorem length_le {H:Type} (l:List (DataW H)):l.length≤Rows.uptoBulkAll l:=by
 induction l with
 | nil=>simp[Rows.uptoBulkAll]
 | cons x r ih=>have:=one_le x;simp only[Rows.uptoBulkAll,List.length_cons];omega
theorem slice_le {H:Type} (elems spare:List (DataW H)):elems.length+spare.length+1≤Rows.uptoBulk (.slice elems spare):=by
 have h1:=length_le elems
 have h2:=length_le spare
 simp only[Rows.uptoBulk]
 omega
theorem bound {H:Type} {l:List (DataW H)} (hk:Rows.uptoSmall H l=true):Rows.uptoBulkAll l≤1048576:=by
 simpa [Rows.uptoSmall] using hk
end Go.Proofs.YtncomlmhagaajaaGreat.bulks
namespace Go.Proofs.YtncomlmhagaajaaGreatW.PrintWords
open Go.RowKit
namespace Kd
section
variable {α:Type} {P:Program} {ops:Array Oper} {o:Oper} {a:Act} {rest:List Oper} {Q:Exit→Act→World→Prop}
theorem R_make0 (d:Kd α) {w0 W:World} (base e:Nat) (hgd:o.guard=none) {N:Tmp} (_hd:o.dst=some N) (t:TypeId) (x y:Operand) (ho:o.op=.makeSlice t x y) (n:Int) (hx:a.eval x=.int .i64 0) (hy:a.eval y=.int .i64 n)
  (ht:P.underlying t=some (.slice e)) (z:Value) (bytes:Nat) (hinfo:(P.info? e).map (fun i=>(i.zero,i.size,i.bytes))=some (some z,d.sz,bytes)) (_hz:z.cells.size=d.sz) (_hs0:0<d.sz) (hb0:0<bytes)
  (z0:α) {ok okp:Nat→Prop} (_hzero:d.M W base okp z0 z.cells.toList) (_hok:∀k,okp k→ok k) (hfresh:ok W.heap.size) (h0:0≤n) (hl:n.toNat*bytes≤281474976710656) (HB:Below base w0 W) (hbase:base≤W.heap.size)
  (h:∀v1 w1,d.R e w1 base ok v1 []→Below base w0 w1→W.grownBy w1 none→(∃b,v1.ownBlock=some b∧W.heap.size≤b)→wpList P ops Q rest (a.put o.dst v1) w1):wpList P ops Q (o::rest) a W:=by
 obtain⟨m,rfl⟩:=Int.eq_ofNat_of_zero_le h0
 simp only[Int.toNat_natCast]at hl
 obtain⟨i0,hi,hzz⟩:=Option.map_eq_some_iff.1 hinfo
 simp only[Prod.mk.injEq]at hzz
 obtain⟨hz0,hz1,hz2⟩:=hzz
 have hm:m≤281474976710656:=Nat.le_trans (Nat.le_mul_of_pos_right _ hb0) hl
 have hr:=run_make (P:=P) W t e i0 z ht hi hz0 .i64 .i64 0 (m:Int) (by omega) (by omega)
  (by
   have h3:((i0.bytes*m:Nat):Int)≤281474976710656:=by rw[hz2,Nat.mul_comm];omega
   rwa [Int.natCast_mul]at h3) (by omega)
 simp only[Int.toNat_natCast,Int.toNat_zero]at hr
 rw[hz1]at hr
 have hrun:(execOp a.eval o).run P W=.ok (.value (.slice (some ⟨W.heap.size,0,none⟩) 0 m)) (W.alloc (.cells (madeCells z.cells (m*d.sz)) e)):=by
  simp[execOp,ho,hx,hy,hr]
 refine event_run hgd hrun (h _ _ ⟨fun k hk=>?_,[],?_,?_⟩ (HB.alloc hbase _) (World.grownBy_alloc W _ none) ⟨W.heap.size,by simp[Value.ownBlock],Nat.le_refl _⟩)
 ·have:W.heap.size=k:=by simpa [Value.ownBlock] using hk
  subst this
  exact hfresh
 ·exact World.ownsRow_made W _ m hbase (by unfold maxLen;omega) (by rw[size_madeCells])
 exact Reps.none _ _
end
end Kd
end Go.Proofs.YtncomlmhagaajaaGreatW.PrintWords
namespace Go.Proofs.YtncomlmhagaajaaGreat.Mine
open Go.RowKit Go.Proofs.YtncomlmhagaajaaGreatW.PrintWords Go.Proofs.YtncomlmhagaajaaGreatW.PrintLast Go.Proofs.YtncomlmhagaajaaGreatW.PrintMore
def bits_Add64.f (x y c:Int):Option (Int×Int):=if 0≤x∧0≤y∧0≤c∧c≤1 then some ((x+y+c)%18446744073709551616,(x+y+c)/18446744073709551616) else none
theorem bits_Add64.run {x y c r1 r2:Int} (h:bits_Add64.f x y c=some (r1,r2)):∀w:World,(callFunc 177 #[.int .u64 x,.int .u64 y,.int .u64 c]).run Tryz.prog w=.ok (.value (.tuple #[.int .u64 r1,.int .u64 r2])) w:=by
 intro w
 unfold bits_Add64.f at h
 split at h
 ·rename_i hc
  obtain⟨hx,hy,h0,h1⟩:=hc
  have h2:=Option.some.inj h
  simp only[Prod.mk.injEq]at h2
  obtain⟨rfl,rfl⟩:=h2
  rw[run_callFunc_extern Tryz.func177 Y0 Y0 Y0 (e:=add64Entry) Y0,run_add64 x y c hx hy h0 h1]
  rfl
 cases h
def bits_Sub64.f (x y c:Int):Option (Int×Int):=if 0≤x∧0≤y∧y<18446744073709551616∧0≤c∧c≤1 then some ((x-y-c)%18446744073709551616,if x<y+c then 1 else 0) else none
theorem bits_Sub64.run {x y c r1 r2:Int} (h:bits_Sub64.f x y c=some (r1,r2)):∀w:World,(callFunc 178 #[.int .u64 x,.int .u64 y,.int .u64 c]).run Tryz.prog w=.ok (.value (.tuple #[.int .u64 r1,.int .u64 r2])) w:=by
 intro w
 unfold bits_Sub64.f at h
 split at h
 ·rename_i hc
  obtain⟨hx,hy,hy',h0,h1⟩:=hc
  have h2:=Option.some.inj h
  simp only[Prod.mk.injEq]at h2
  obtain⟨rfl,rfl⟩:=h2
  obtain⟨x,rfl⟩:=Int.eq_ofNat_of_zero_le hx
  obtain⟨y,rfl⟩:=Int.eq_ofNat_of_zero_le hy
  obtain⟨c,rfl⟩:=Int.eq_ofNat_of_zero_le h0
  have e1:(((x+18446744073709551616-y-c)%18446744073709551616:Nat):Int)=((x:Int)-y-c)%18446744073709551616:=by omega
  have e2:((if x<y+c then 1 else 0:Nat):Int)=if(x:Int)<y+c then 1 else 0:=by split<;>split<;>omega
  rw[run_callFunc_extern Tryz.func178 Y0 Y0 Y0 (e:=sub64Entry) Y0,run_sub64 x y c Z0]
  rw[←e1,←e2]
  rfl
 cases h
theorem minfo59:(Tryz.prog.info? 48).map (fun i=>(i.zero,i.size,i.bytes))=some (some (.int .u64 0),1,8):=by kernel_rfl
def api_Nat_uint64.f (l0:List Int):Option (List Int):=if l0.length<17592186044416 then some l0 else none
set_option maxHeartbeats 1000000 in
theorem api_Nat_uint64.calls (A0:Option Addr) (c0:Nat) (l0:List Int) (r:List Int) (w:World) (hr0:Kd.C (Kd.int .u64) w A0 l0.length l0) (hc0:l0.length≤c0) (h:api_Nat_uint64.f l0=some r) :
  Calls Tryz.prog 91 #[.slice A0 l0.length c0] w fun e w'=>∃v0_:Value,e=.returned (v0_)∧Kd.R (Kd.int .u64) 48 w' w.heap.size (fun _=>True) v0_ r∧Below w.heap.size w w':=by
 unfold api_Nat_uint64.f at h
 split at h
 ·rename_i hlen
  obtain rfl:=Option.some.inj h
  clear h
  have HR0:=Aside0.mk hr0
  have HC0:=Aside0.mk hc0
  have HL:=Aside0.mk hlen
  clear hc0 hlen
  rcases A0 with _|a
  ·have hl:l0=[]:=by
    rcases l0 with _|⟨x,l⟩
    ·rfl
    obtain⟨ad,he,_⟩:=Kd.at_int hr0 0 Z0 Z1
    cases he
   subst hl
   clear hr0
   have hn:=fun(w:World)=>_root_.Go.run_eql_slice_nil (P:=Tryz.prog) w 26 48 none 0 c0 Tryz.underlying26
   go_enter Tryz.func91,Tryz.ntmps91
   go_wp2
   go_ret
   exact⟨_,rfl,Kd.R_nil _ _ _ _ _,Below.refl _ _⟩
  clear hr0
  have hn:=fun(w:World)=>_root_.Go.run_eql_slice_nil (P:=Tryz.prog) w 26 48 (some a) l0.length c0 Tryz.underlying26
  go_enter Tryz.func91,Tryz.ntmps91
  go_wp2_with (first
   | ((with_reducible refine gate_dst (N:=5) rfl ?_);refine Kd.R_lit (Kd.int .u64) _ 48 ?hg (N:=5) ?hd (xs:=([]:List Int)) (inner:=[]) (ok:=fun _=>True) (okp:=fun _=>True) ?hr ?hp (fun _ hk=>hk) trivial (Below.refl _ _) (Nat.le_refl _) Z1 ?_;(case hd=>rfl);(case hg=>rfl);(case hr=>first|(go_simp;done)|(go_simp;rfl));(case hp=>exact(Reps.none _ _));intro v1 w1 ho hb hg_ hnew_;clear hg_ hnew_;have HO:=Aside0.mk ho;have HB:=Aside0.mk hb;clear ho hb;obtain⟨Ao,co,eo⟩:=Kd.R_slice HO.out;subst eo)
   | ((with_reducible refine gate_builtin (b:=.append) (xs:=#[.tmp 5,.tmp 6]) rfl ?_);at_builtin;refine Kd.R_append_rows (Kd.int .u64) (w0:=w) w.heap.size rfl (.tmp 5) (.tmp 6) 26 48 (.int .u64 0) 8 rfl Tryz.underlying26 minfo59 rfl X0 Z0 (.slice Ao ([]:List Int).length co) [] l0 _ _ _ (fun _=>True) (fun _=>False) rfl rfl ?aO ?aR (fun _ _ h=>h) (fun _ h=>h.elim) ?aF ?aB ?aS ?aL ?_;(case aR=>exact Kd.C_below HR0.out HB.out);(case aB=>exact HB.out);(case aF=>exact fun _ _=>trivial);(case aO=>exact HO.out);(case aS=>exact below_size HB.out);(case aL=>have:=HL.out;simp only[List.length_nil];omega);intro v2 w2 ho hb hg hat;have HO2:=Aside0.mk ho;have HB2:=Aside0.mk hb;clear ho hb hg hat;simp only[List.nil_append]at HO2;obtain⟨Ao2,co2,eo2⟩:=Kd.R_slice HO2.out;subst eo2))
  go_ret
  exact⟨_,rfl,HO2.out,HB2.out⟩
 cases h
end Go.Proofs.YtncomlmhagaajaaGreat.Mine
namespace Go.Proofs
open Go.Shelf
def Tryz.lays134_ren:Go.Shelf.Ren:=⟨fun|134=>170|129=>97|n=>n,fun|53=>48|3=>3|4=>4|46=>94|5=>5|9=>9|n=>n,fun|n=>n⟩
theorem Tryz.lays134:Go.Proofs.Lays.n134 Tryz.prog Tryz.lays134_ren:={
 mixed:=by kernel_rfl
 f129:=Tryz.func97.trans (congrArg some (by kernel_rfl))
 f134:=Tryz.func170.trans (congrArg some (by kernel_rfl))
 t3:=Tryz.underlying3
 a3:=Tryz.isAgg3
 z3:=Tryz.sizeOf3
 v3:=Tryz.zeroValue3
 t4:=Tryz.underlying4
 a4:=Tryz.isAgg4
 z4:=Tryz.sizeOf4
 v4:=Tryz.zeroValue4
 t5:=Tryz.underlying5
 a5:=Tryz.isAgg5
 z5:=Tryz.sizeOf5
 v5:=Tryz.zeroValue5
 t9:=Tryz.underlying9
 a9:=Tryz.isAgg9
 z9:=Tryz.sizeOf9
 v9:=Tryz.zeroValue9
 t46:=Tryz.underlying94
 a46:=Tryz.isAgg94
 z46:=Tryz.sizeOf94
 v46:=Tryz.zeroValue94
 t53:=Tryz.underlying48
 a53:=Tryz.isAgg48
 z53:=Tryz.sizeOf48
 v53:=Tryz.zeroValue48}
theorem Tryz.bits_LeadingZeros64 (x:Int) (w:World) (h0:0≤x) (h1:x≤18446744073709551615) :
  Calls Tryz.prog 170 #[.int .u64 x] w fun e w'=>e=.returned (.int .i64 (64-(Lib.bitLen x.toNat:Int)))∧w'=w:=Any.bits_LeadingZeros64 Tryz.lays134 x w h0 h1
def Tryz.lays129_ren:Go.Shelf.Ren:=⟨fun|129=>97|n=>n,fun|53=>48|3=>3|4=>4|46=>94|5=>5|9=>9|n=>n,fun|n=>n⟩
theorem Tryz.lays129:Go.Proofs.Lays.n129 Tryz.prog Tryz.lays129_ren:={
 mixed:=by kernel_rfl
 f129:=Tryz.func97.trans (congrArg some (by kernel_rfl))
 t3:=Tryz.underlying3
 a3:=Tryz.isAgg3
 z3:=Tryz.sizeOf3
 v3:=Tryz.zeroValue3
 t4:=Tryz.underlying4
 a4:=Tryz.isAgg4
 z4:=Tryz.sizeOf4
 v4:=Tryz.zeroValue4
 t5:=Tryz.underlying5
 a5:=Tryz.isAgg5
 z5:=Tryz.sizeOf5
 v5:=Tryz.zeroValue5
 t9:=Tryz.underlying9
 a9:=Tryz.isAgg9
 z9:=Tryz.sizeOf9
 v9:=Tryz.zeroValue9
 t46:=Tryz.underlying94
 a46:=Tryz.isAgg94
 z46:=Tryz.sizeOf94
 v46:=Tryz.zeroValue94
 t53:=Tryz.underlying48
 a53:=Tryz.isAgg48
 z53:=Tryz.sizeOf48
 v53:=Tryz.zeroValue48}
theorem Tryz.bits_Len64 (x:Int) (w:World) (h0:0≤x) (h1:x≤18446744073709551615) :
  Calls Tryz.prog 97 #[.int .u64 x] w fun e w'=>e=.returned (.int .i64 (Lib.bitLen x.toNat))∧w'=w:=Any.bits_Len64 Tryz.lays129 x w h0 h1
def Tryz.lays264_ren:Go.Shelf.Ren:=⟨fun|264=>173|n=>n,fun|53=>48|46=>94|n=>n,fun|n=>n⟩
theorem Tryz.lays264:Go.Proofs.Lays.n264 Tryz.prog Tryz.lays264_ren:={
 mixed:=by kernel_rfl
 f264:=Tryz.func173.trans (congrArg some (by kernel_rfl))
 t46:=Tryz.underlying94
 a46:=Tryz.isAgg94
 z46:=Tryz.sizeOf94
 v46:=Tryz.zeroValue94
 t53:=Tryz.underlying48
 a53:=Tryz.isAgg48
 z53:=Tryz.sizeOf48
 v53:=Tryz.zeroValue48}
open Go.RowKit Go.Lib in
theorem Tryz.bits_Mul64 (x y:Nat) (hx:x<18446744073709551616) (hy:y<18446744073709551616) (w:World) :
  Calls Tryz.prog 173 #[.int .u64 x,.int .u64 y] w fun e w'=>e=.returned (.tuple #[.int .u64 ((x*y/18446744073709551616:Nat):Int),.int .u64 ((x*y%18446744073709551616:Nat):Int)])∧w'=w:=Any.bits_Mul64 Tryz.lays264 x y hx hy w
def Tryz.laysSlH8_f66_ren:Go.Shelf.Ren:=⟨fun|8=>66|6=>140|n=>n,fun|22=>23|23=>3|25=>104|4=>4|3=>3|0=>0|n=>n,fun|n=>n⟩
theorem Tryz.laysSlH8_f66:Go.Proofs.SlLaysH.n8 Tryz.prog Tryz.laysSlH8_f66_ren:={
 mixed:=by kernel_rfl
 f6:=⟨Tryz.f140.name,by decide,Tryz.func140.trans (congrArg some (by kernel_rfl))⟩
 f8:=⟨Tryz.f66.name,by decide,Tryz.func66.trans (congrArg some (by kernel_rfl))⟩
 t0:=Tryz.underlying0
 a0:=Tryz.isAgg0
 z0:=Tryz.sizeOf0
 v0:=Tryz.zeroValue0
 t3:=Tryz.underlying3
 a3:=Tryz.isAgg3
 z3:=Tryz.sizeOf3
 v3:=Tryz.zeroValue3
 t4:=Tryz.underlying4
 a4:=Tryz.isAgg4
 z4:=Tryz.sizeOf4
 v4:=Tryz.zeroValue4
 t22:=Tryz.underlying23
 a22:=Tryz.isAgg23
 z22:=Tryz.sizeOf23
 v22:=Tryz.zeroValue23
 a23:=Tryz.isAgg3
 z23:=Tryz.sizeOf3
 t25:=Tryz.underlying104
 a25:=Tryz.isAgg104
 z25:=Tryz.sizeOf104
 v25:=Tryz.zeroValue104}
open Go.RowKit Go.Lib in
theorem Tryz.slices_ContainsFunc {α:Type} [Inhabited α] (enc:α→Value) (p:α→Bool) (g:Nat) (lb:Array Value) (eg:∀args w,(callFunc g args).run Tryz.prog w=.ok (.enter g args) w) (b off n c:Nat) (zs:List α) (w:World) (hp:PredAt Tryz.prog g lb enc p w) (hz:n≤zs.length) (hbig:n≤9223372036854775807) (hc:∀j,j<zs.length→w.cell? ⟨b,off+j,none⟩=some (enc zs[j]!)) :
  Calls Tryz.prog 66 #[.slice (some ⟨b,off,none⟩) n c,.func (.func g) #[] lb] w fun e w'=>e=.returned (.bool ((zs.take n).any p))∧∃q,w'=w.drewN q:=AnyE.slices_ContainsFunc Tryz.laysSlH8_f66 enc p g lb eg b off n c zs w hp hz hbig hc
end Go.Proofs
namespace Go.Proofs.YtncomlmhagaajaaGreat.Mine
open Go.RowKit Go.Proofs.YtncomlmhagaajaaGreatW.PrintWords Go.Proofs.YtncomlmhagaajaaGreatW.PrintLast Go.Proofs.YtncomlmhagaajaaGreatW.PrintMore
def bits_LeadingZeros64.f (x:Int):Option Int:=if 0≤x∧x≤18446744073709551615 then some (64-(Lib.bitLen x.toNat:Int)) else none
theorem bits_LeadingZeros64.calls (a0:Int) (r:Int) (w:World) (h:bits_LeadingZeros64.f a0=some r) :
  Calls Tryz.prog 170 #[.int .u64 a0] w fun e w'=>e=.returned (.int .i64 r)∧Drawn0 w w':=by
 unfold bits_LeadingZeros64.f at h
 split at h
 ·rename_i hc
  obtain rfl:=Option.some.inj h
  refine(Tryz.bits_LeadingZeros64 a0 w hc.1 hc.2).mono ?_
  rintro e w' ⟨rfl,rfl⟩
  exact⟨rfl,Drawn0.refl _⟩
 cases h
def bits_Len64.f (x:Int):Option Int:=if 0≤x∧x≤18446744073709551615 then some (Lib.bitLen x.toNat:Int) else none
theorem bits_Len64.calls (a0:Int) (r:Int) (w:World) (h:bits_Len64.f a0=some r) :
  Calls Tryz.prog 97 #[.int .u64 a0] w fun e w'=>e=.returned (.int .i64 r)∧Drawn0 w w':=by
 unfold bits_Len64.f at h
 split at h
 ·rename_i hc
  obtain rfl:=Option.some.inj h
  refine(Tryz.bits_Len64 a0 w hc.1 hc.2).mono ?_
  rintro e w' ⟨rfl,rfl⟩
  exact⟨rfl,Drawn0.refl _⟩
 cases h
class Up (W W':World):Prop where
 below:Below W.heap.size W W'
instance Up.rfl_ {W:World}:Up W W:=⟨Below.refl _ _⟩
instance Up.alloc_ {W W':World} [h:Up W W'] (o:Obj):Up W (W'.alloc o):=⟨h.below.alloc h.below.size o⟩
instance Up.drewN_ {W W':World} [h:Up W W'] (n:Nat):Up W (W'.drewN n):=⟨pw_below_drewN h.below n⟩
instance Up.drew_ {W W':World} [h:Up W W']:Up W W'.drew:=⟨below_drew h.below⟩
section
variable {w W W' w1:World} {g g' k:Nat} {o:Obj} [u:Up W W']
include u
theorem kbu (h:W.heap[g]? = some o):W'.heap[g]? = some o:=blk_below h u.below
theorem khu (h:Below w.heap.size w W):Below w.heap.size w W':=h.trans (u.below.mono h.size)
theorem kbb (h:Aside0 (W.heap[g]? = some o)) (hb:Below W'.heap.size W' w1):Aside0 (w1.heap[g]? = some o):=⟨blk_below (kbu h.out) hb⟩
theorem kbs (h:Aside0 (Below w.heap.size w W)) (hb:Below W'.heap.size W' w1):Aside0 (Below w.heap.size w w1):=⟨below_step (khu h.out) hb⟩
theorem kbz (hg:g'=W'.heap.size) (h:Aside0 (Below w.heap.size w W)):Aside0 (w.heap.size≤g'):=⟨by rw[hg];exact below_size (khu h.out)⟩
theorem knl (hg:g'=W'.heap.size) (h:Aside0 (W.heap[g]? = some o)):Aside0 (g≠g'):=⟨by rw[hg];exact Nat.ne_of_lt (blk_lt (kbu (W':=W') h.out))⟩
theorem kng (hg:g'=W'.heap.size) (h:Aside0 (W.heap[g]? = some o)):Aside0 (g'≠g):=⟨by rw[hg];exact Nat.ne_of_gt (blk_lt (kbu (W':=W') h.out))⟩
theorem kfb (h:Aside0 (W.heap[g]? = some o)) (hn:W'.heap.size≤k):k≠g:=Kd.freshB (kbu h.out) k hn
variable {α:Type} {d:Kd α} {e base n:Nat} {ok:Nat→Prop} {v:Value} {xs:List α} {A:Option Addr}
theorem kvu (h:Kd.V d e W base ok v xs):Kd.V d e W' base ok v xs:=Kd.V_below h u.below
theorem kvb (h:Aside0 (Kd.V d e W base ok v xs)) (hb:Below W'.heap.size W' w1):Aside0 (Kd.V d e w1 base ok v xs):=⟨Kd.V_below (kvu h.out) hb⟩
theorem kru (h:d.R e W base ok v xs):d.R e W' base ok v xs:=Kd.R_below h u.below
theorem krb (h:Aside0 (d.R e W base ok v xs)) (hb:Below W'.heap.size W' w1):Aside0 (d.R e w1 base ok v xs):=⟨Kd.R_below (kru h.out) hb⟩
end
end Go.Proofs.YtncomlmhagaajaaGreat.Mine
namespace Go.Proofs.YtncomlmhagaajaaGreat.Mine
open Go Go.RowKit Go.Proofs.YtncomlmhagaajaaGreatW.PrintWords Go.Proofs.YtncomlmhagaajaaGreatW.PrintLast Go.Proofs.YtncomlmhagaajaaGreatW.PrintMore
def bmL:Nat→Nat→List Bool
  | 0,_=>[]
  | n+1,m=>Nat.beq (Nat.mod m 2) 1::bmL n (Nat.div m 2)
def bm_ (n m:Nat):Array Bool:=⟨bmL n m⟩
section
variable {P:Program} {ops:Array Oper} {Q:Exit→Act→World→Prop} {md:Region.Mode} {S:World→Prop} {ds:List Nat}
theorem pu_ {oi:Oper} {fuel:Nat} {l:Array Bool} {a:Act} {w:World} (i:Nat) (N:Tmp) (v:Value) (l':Array Bool) (hi:ops[i]? = some oi) (hN:oi.dst=some N) (hc:anyB md ops l l' i=true)
 (hQ:∀c a w,Q (.panic c) (a.put oi.dst v) w→Q (.panic c) a w) (h1:Region.wanted oi (yielded ops a.tmps)=true) (h2:∀w,(execOp a.eval oi).run P w=.ok (.value v) w) (a':Act) (ha:a.put (some N) v=a')
 (h:wpAnyLast P md ops Q S ds fuel l' a' w):wpAnyLast P md ops Q S ds (fuel+1) l a w:=pure_ l' hi hN hc hQ (Or.inl ⟨h1,h2⟩) ha h
theorem tk_ {oi:Oper} {fuel:Nat} {l:Array Bool} {a:Act} {w:World} (i:Nat) (N:Tmp) (v:Value) (l':Array Bool) (hi:ops[i]? = some oi) (hN:oi.dst=some N) (hc:takeB md ops ds l l' i=true)
 (hQ:∀c a w,Q (.panic c) (a.put oi.dst v) w→Q (.panic c) a w) (h1:Region.wanted oi (yielded ops a.tmps)=true) (h2:∀w,S w→(execOp a.eval oi).run P w=.ok (.value v) w) (hS:S w) (a':Act) (ha:a.put (some N) v=a')
 (h:wpAnyLast P md ops Q S ds fuel l' a' w):wpAnyLast P md ops Q S ds (fuel+1) l a w:=take_ l' hi hN hc hQ (Or.inl ⟨h1,h2⟩) hS ha h
theorem gd {rest:List Oper} {o:Oper} {a:Act} {W:World} (N:Tmp) (_hN:o.dst=some N) (h:wpList P ops Q (o::rest) a W):wpList P ops Q (o::rest) a W:=h
theorem gs {rest:List Oper} {o:Oper} {a:Act} {W:World} (t:TypeId) (p v:Tmp) (_ho:o.op=.store t (.tmp p) (.tmp v)) (h:wpList P ops Q (o::rest) a W):wpList P ops Q (o::rest) a W:=h
end
theorem hv.{u} {α:Type u} {l l' m:List α} {n:Nat} {x:Option α} (h:Aside0 (l=l')) (e:(l'++m)[n]? = x):(l++m)[n]? = x:=by rw[h.out];exact e
theorem lb {a b:Nat} (h:Nat.ble a b=true):a≤b:=Nat.le_of_ble_eq_true h
theorem kss {α:Type}:(∀(xs:List α) (i:Nat) (a:α),xs.toArray.setIfInBounds i a=(xs.set i a).toArray)∧(∀(xs:List α) (x a:α),(x::xs).set 0 a=a::xs)∧(∀(xs:List α) (x a:α) (i:Nat),(x::xs).set (i+1) a=x::xs.set i a):=
 ⟨fun _ _ _=>by simp,fun _ _ _=>rfl,fun _ _ _ _=>rfl⟩
section
variable {P:Program} {ops:Array Oper} {Q:Exit→Act→World→Prop} {md:Region.Mode} {S:World→Prop} {ds:List Nat}
theorem kgo {oi:Oper} {N:Option Tmp} {a:Act} {w:World} {K:Act→World→Prop} {f:FuncId} {fn:Func} {ar:Array Operand} {ts:Array TypeId} (hf:P.funcs[f]? = some fn) (args:Array Value)
  (hw:Region.wanted oi (yielded ops a.tmps)=true) (hN:oi.dst=N) (hop:oi.op=.call {callee:=.value (.func f),args:=ar,argTypes:=ts})
  (h:Calls P f args w fun e w'=>∃v,e=.returned v∧K (a.put N v) w') (hargs:ar.map a.eval=args:=by(try simp only[List.map_toArray,List.map_cons,List.map_nil]);first|done|rfl|(simp only[List.length_drop,List.length_take];rfl)) (hname:(fn.name == "runtime.NumGoroutine")=false:=by kernel_rfl) (hb:fn.body.isSome=true:=by rfl):if Region.wanted oi (yielded ops a.tmps)=true then Oper.wp P oi a w K Q else K (a.put N undef) w:=
 goes_ hf hname hb args hw hN hop hargs h
theorem kgl {rest:List Oper} {oi:Oper} {a:Act} {w:World} (N:Option Tmp) (hd:oi.dst=N) (hg:oi.guard=none) {f:FuncId} {fn:Func} {ar:Array Operand} {ts:Array TypeId} (hf:P.funcs[f]? = some fn) (args:Array Value)
  (hop:oi.op=.call {callee:=.value (.func f),args:=ar,argTypes:=ts})
  (h:Calls P f args w fun e w'=>∃v,e=.returned v∧wpList P ops Q rest (a.put N v) w') (hargs:ar.map a.eval=args:=by(try simp only[List.map_toArray,List.map_cons,List.map_nil]);first|done|rfl|(simp only[List.length_drop,List.length_take];rfl)) (hname:(fn.name == "runtime.NumGoroutine")=false:=by kernel_rfl) (hb:fn.body.isSome=true:=by rfl):wpList P ops Q (oi::rest) a w:=
 goesL_ N hd hg hf hname hb args hop hargs h
theorem kbe {rest:List Oper} {o:Oper} {a:Act} {W:World} (N:Tmp) (cs:Array Value) (t:TypeId)
  (h:∀g,g=W.heap.size→∀w1,w1.heap[g]? = some (.cells cs t (0,0))→Below W.heap.size W w1→wpList P ops Q rest (a.put o.dst (.pointer (some ⟨g,0,none⟩))) w1)
  (hd:o.dst=some N:=by rfl) (hgd:o.guard=none:=by rfl) (hrun:(execOp a.eval o).run P W=.ok (.value (.pointer (some ⟨W.heap.size,0,none⟩))) (W.alloc (.cells cs t (0,0))):=by first|(go_simp;done)|(go_simp;rfl)):wpList P ops Q (o::rest) a W:=
 box_event hgd hd hrun h
end
class UpO (W:outParam World) (W':World):Prop where
 below:Below W.heap.size W W'
instance (priority:=low) UpO.rfl_ {W:World}:UpO W W:=⟨Below.refl _ _⟩
instance UpO.alloc_ {W W':World} [h:UpO W W'] (o:Obj):UpO W (W'.alloc o):=⟨h.below.alloc h.below.size o⟩
instance UpO.drewN_ {W W':World} [h:UpO W W'] (n:Nat):UpO W (W'.drewN n):=⟨pw_below_drewN h.below n⟩
instance UpO.drew_ {W W':World} [h:UpO W W']:UpO W W'.drew:=⟨below_drew h.below⟩
theorem kfa {W W':World} [u:UpO W W'] {g:Nat} {t:TypeId} {cs:Array Value} {p:Addr} {v:Value} (hp:Aside0 (g≠p.block)) (h:W.heap[g]? = some (.cells cs t (0,0))):(W'.setCell p v).heap[g]? = some (.cells cs t (0,0)):=blk_far (blk_below h u.below) hp.out v
theorem kpu {W W':World} [u:UpO W W'] {g:Nat} {t:TypeId} (cs:Array Value) {cs':Array Value} (i:Nat) {v:Value} (h:W.heap[g]? = some (.cells cs t (0,0))) (e:cs.setIfInBounds i v=cs':=by rfl):(W'.setCell ⟨g,i,none⟩ v).heap[g]? = some (.cells cs' t (0,0)):=blk_put (blk_below h u.below) i v e
end Go.Proofs.YtncomlmhagaajaaGreat.Mine
namespace Go.Proofs.YtncomlmhagaajaaGreat.PBo
open Go.RowKit Go.Proofs.YtncomlmhagaajaaGreatW.PrintWords Go.Proofs.YtncomlmhagaajaaGreatW.PrintLast Go.Proofs.YtncomlmhagaajaaGreatW.PrintMore
open Go.Proofs.YtncomlmhagaajaaGreat.Mine
attribute [local go_sem] max2_int min2_int max_two min_two max_three min_three max_four min_four
def errW:Option Int→Value
 | none=>.nilIface
 | some c=>.iface 0 (.int .i64 c)
theorem errW_none:errW none=.nilIface:=rfl
theorem errW_some (c:Int):errW (some c)=.iface 0 (.int .i64 c):=rfl
theorem info48:(Tryz.prog.info? 48).map (fun i=>(i.zero,i.size,i.bytes))=some (some (.int .u64 0),1,8):=by kernel_rfl
theorem info127:(Tryz.prog.info? 127).map (fun i=>(i.zero,i.size,i.bytes))=some (some (.int .u16 0),1,2):=by kernel_rfl
def rd_L1 (xs:List (List Int)) (i:Int):(List Int):=xs.getD i.toNat ([]:List Int)
theorem at_L1 {w:World} {A:Option Addr} {n:Nat} {xs:List (List Int)} (h:Kd.C (Kd.slice 48 (Kd.int .u64)) w A n xs) (i:Int) (h0:0≤i) (h1:i<n):∃ad A0 c0,A=some ad∧w.cell? (ad.add i.toNat)=some (.slice A0 (rd_L1 xs i).length c0)∧(rd_L1 xs i).length≤c0∧(Kd.int .u64).C w A0 (rd_L1 xs i).length (rd_L1 xs i):=by
 obtain⟨ad,c,e,_,hK,hc0⟩:=Kd.C_get h ([]:List Int) i h0 h1
 have hc:∀j u,c[j]? = some u→w.cell? (ad.add (i.toNat*1+j))=some u:=hc0
 obtain⟨A0,c0,rfl,l0,g0⟩:=hK
 exact⟨ad,A0,c0,e,by have hq:=hc 0 _ rfl;rwa [Nat.mul_one,Nat.add_zero]at hq,l0,g0⟩
structure S28 where
 f0:Int
 f1:(List Int)
def z28:S28:=⟨(0:Int),([]:List Int)⟩
def k28:Kd S28:=Kd.iso (Kd.pair (Kd.int .i64) (Kd.slice 48 (Kd.int .u64))) (fun x:S28=>(x.f0,x.f1))
theorem k28_open {w:World} {x:S28} {cs:List Value} (h:k28.K w x cs):∃A1 c1,cs=[.int .i64 x.f0,.slice A1 x.f1.length c1]∧x.f1.length≤c1∧(Kd.int .u64).C w A1 x.f1.length x.f1:=by
 obtain⟨_,_,rfl,rfl,⟨A1,c1,rfl,l1,g1⟩⟩:=h
 exact⟨A1,c1,rfl,l1,g1⟩
theorem k28_mk (w:World) (x:S28) {A1:Option Addr} {c1:Nat} (l1:x.f1.length≤c1) (g1:(Kd.int .u64).C w A1 x.f1.length x.f1):k28.K w x [.int .i64 x.f0,.slice A1 x.f1.length c1]:=⟨[.int .i64 x.f0],[.slice A1 x.f1.length c1],rfl,rfl,⟨A1,c1,rfl,l1,g1⟩⟩
theorem k28_mkF (W:World) (ok:Nat→Prop) (x:S28) {A1:Option Addr} {c1:Nat} (l1:x.f1.length≤c1) (g1:Kd.F (Kd.int .u64) W ok A1 x.f1.length x.f1):Kd.FK k28 W ok x [.int .i64 x.f0,.slice A1 x.f1.length c1]:=fun W2 hW=>k28_mk W2 x l1 (g1 W2 hW)
mutual
def tribunalref09_Same.j0:Nat→Bool→Int→List Int→Int→List Int→Option (Bool)
 | 0,_,_,_,_,_=>none
 | k+1,x19,x745000,x745001,x746000,x746001=>if x19=true then(some false) else(tribunalref09_Same.l0 k 0 x745000 x745001 x746000 x746001)
def tribunalref09_Same.l0:Nat→Int→Int→List Int→Int→List Int→Option (Bool)
 | 0,_,_,_,_,_=>none
 | k+1,x5,x745000,x745001,x746000,x746001=>if x5<(x745001.length:Int) then(if 0≤x5 then(if x5<(x746001.length:Int) then(if(rd x745001 x5)=(rd x746001 x5) then(tribunalref09_Same.l0 k (wrap64 (x5+1)) x745000 x745001 x746000 x746001) else(some false)) else(none)) else(none)) else(some true)
end
def tribunalref09_Same.f (k:Nat) (a0_0:Int) (l0_1:List Int) (a1_0:Int) (l1_1:List Int):Option (Bool):=if a0_0=a1_0 then(tribunalref09_Same.j0 k ((l0_1.length:Int) != (l1_1.length:Int)) a0_0 l0_1 a1_0 l1_1) else(tribunalref09_Same.j0 k true a0_0 l0_1 a1_0 l1_1)
theorem tribunalref09_Same.mono_l:∀k,(∀y0 y1 y2 y3 y4,LeO (tribunalref09_Same.j0 k y0 y1 y2 y3 y4) (tribunalref09_Same.j0 (k+1) y0 y1 y2 y3 y4))∧(∀y0 y1 y2 y3 y4,LeO (tribunalref09_Same.l0 k y0 y1 y2 y3 y4) (tribunalref09_Same.l0 (k+1) y0 y1 y2 y3 y4))
 | 0=>⟨fun _ _ _ _ _ r h=>by simp[tribunalref09_Same.j0]at h,fun _ _ _ _ _ r h=>by simp[tribunalref09_Same.l0]at h⟩
 | k+1=>by
  obtain⟨ih0,ih1⟩:=tribunalref09_Same.mono_l k
  refine⟨?_,?_⟩
  ·intro y0 y1 y2 y3 y4
   unfold tribunalref09_Same.j0
   repeat' first
   | (with_reducible exact ih0 _ _ _ _ _)
   | (with_reducible exact ih1 _ _ _ _ _)
   | (with_reducible exact LeO.refl _)
   | (with_reducible exact LeO.none _)
   | (with_reducible refine LeO.ite ?_ ?_)
   | (with_reducible refine LeO.bind ?_ (fun _=>?_))
   | exact ih0 _ _ _ _ _
   | exact ih1 _ _ _ _ _
   | exact LeO.none _
   | refine LeO.ite ?_ ?_
   | refine LeO.bind ?_ (fun _=>?_)
  intro y0 y1 y2 y3 y4
  unfold tribunalref09_Same.l0
  repeat' first
  | (with_reducible exact ih0 _ _ _ _ _)
  | (with_reducible exact ih1 _ _ _ _ _)
  | (with_reducible exact LeO.refl _)
  | (with_reducible exact LeO.none _)
  | (with_reducible refine LeO.ite ?_ ?_)
  | (with_reducible refine LeO.bind ?_ (fun _=>?_))
  | exact ih0 _ _ _ _ _
  | exact ih1 _ _ _ _ _
  | exact LeO.none _
  | refine LeO.ite ?_ ?_
  | refine LeO.bind ?_ (fun _=>?_)
theorem tribunalref09_Same.mono:∀a0 a1 a2 a3 k,LeO (tribunalref09_Same.f k a0 a1 a2 a3) (tribunalref09_Same.f (k+1) a0 a1 a2 a3):=by
 intro a0 a1 a2 a3 k
 obtain⟨ih0,ih1⟩:=tribunalref09_Same.mono_l k
 unfold tribunalref09_Same.f
 repeat' first
   | (with_reducible exact ih0 _ _ _ _ _)
   | (with_reducible exact ih1 _ _ _ _ _)
   | (with_reducible exact LeO.refl _)
   | (with_reducible exact LeO.none _)
   | (with_reducible refine LeO.ite ?_ ?_)
   | (with_reducible refine LeO.bind ?_ (fun _=>?_))
   | exact ih0 _ _ _ _ _
   | exact ih1 _ _ _ _ _
   | exact LeO.none _
   | refine LeO.ite ?_ ?_
   | refine LeO.bind ?_ (fun _=>?_)
theorem tribunalref09_Same.calls (k:Nat) (af:Int) (an:Option Addr) (ao:Nat) (ac:List Int) (ag:Int) (ar:Option Addr) (au:Nat) (ae:List Int) (r:Bool) (w:World) (aU:Kd.C (Kd.int .u64) w an ac.length ac) (aV:ac.length≤ao) (aW:Kd.C (Kd.int .u64) w ar ae.length ae) (aX:ae.length≤au) (h:tribunalref09_Same.f k af ac ag ae=some r) :
  Calls Tryz.prog 13 #[.agg #[.int .i64 af,.slice an ac.length ao],.agg #[.int .i64 ag,.slice ar ae.length au]] w fun e w'=>e=.returned (.bool r)∧Below w.heap.size w w':=by
 have bS:=Tryz.underlying28
 have aY:=Aside0.mk aU
 have bG:=Aside0.mk aV
 clear aU aV
 have aZ:=Aside0.mk aW
 have bH:=Aside0.mk aX
 clear aW aX
 have HB:=Aside0.mk (Below.refl w.heap.size w)
 have H:(if af=ag then(tribunalref09_Same.j0 k ((ac.length:Int) != (ae.length:Int)) af ac ag ae) else(tribunalref09_Same.j0 k true af ac ag ae))=some r:=h
 clear h
 have HC3:=Aside0.mk H
 clear H
 go_enter Tryz.func13,Tryz.ntmps13
 go_upto_region 1 with(first|(refine gd 2 rfl ?_;(try(refine gate_guard F0 ?_;dsimp only));refine kbe 2 #[.int .i64 af,.slice an ac.length ao] 28 ?_;intro ah hg w4 hbox hb;have aa:=Aside0.mk (hbox);have bb:=kbz hg HB;have ap:=kbz hg HB;replace HB:=kbs HB hb;clear hb hbox hg)|(refine gd 3 rfl ?_;(try(refine gate_guard F0 ?_;dsimp only));refine kbe 3 #[.int .i64 ag,.slice ar ae.length au] 28 ?_;intro ak hg w5 hbox hb;have ad:=Aside0.mk (hbox);have bc:=kbz hg HB;have aq:=kbz hg HB;replace HB:=kbs HB hb;have ai:=knl hg aa;have aj:=kng hg aa;replace aa:=kbb aa hb;clear hb hbox hg))
 repeat (go_quiet (first|(refine gd 2 rfl ?_;(try(refine gate_guard F0 ?_;dsimp only));refine kbe 2 #[.int .i64 af,.slice an ac.length ao] 28 ?_;intro ah hg w4 hbox hb;have aa:=Aside0.mk (hbox);have bb:=kbz hg HB;have ap:=kbz hg HB;replace HB:=kbs HB hb;clear hb hbox hg)|(refine gd 3 rfl ?_;(try(refine gate_guard F0 ?_;dsimp only));refine kbe 3 #[.int .i64 ag,.slice ar ae.length au] 28 ?_;intro ak hg w5 hbox hb;have ad:=Aside0.mk (hbox);have bc:=kbz hg HB;have aq:=kbz hg HB;replace HB:=kbs HB hb;have ai:=knl hg aa;have aj:=kng hg aa;replace aa:=kbb aa hb;clear hb hbox hg));go_upto_region 1 with(first|(refine gd 2 rfl ?_;(try(refine gate_guard F0 ?_;dsimp only));refine kbe 2 #[.int .i64 af,.slice an ac.length ao] 28 ?_;intro ah hg w4 hbox hb;have aa:=Aside0.mk (hbox);have bb:=kbz hg HB;have ap:=kbz hg HB;replace HB:=kbs HB hb;clear hb hbox hg)|(refine gd 3 rfl ?_;(try(refine gate_guard F0 ?_;dsimp only));refine kbe 3 #[.int .i64 ag,.slice ar ae.length au] 28 ?_;intro ak hg w5 hbox hb;have ad:=Aside0.mk (hbox);have bc:=kbz hg HB;have aq:=kbz hg HB;replace HB:=kbs HB hb;have ai:=knl hg aa;have aj:=kng hg aa;replace aa:=kbb aa hb;clear hb hbox hg)))
 (try simp only[Act.put,kss])
 go_cut [19] (fun v19 wc=>∃(kq:Nat) (aA:Bool),v19=.bool aA∧Aside0 (tribunalref09_Same.j0 kq aA af ac ag ae=some r)∧Aside0 (kq≤k)∧Aside0 (wc.heap[ah]? = some (.cells #[.int .i64 af,(.slice an ac.length ao)] 28 (0,0)))∧Aside0 (wc.heap[ak]? = some (.cells #[.int .i64 ag,(.slice ar ae.length au)] 28 (0,0)))∧Aside0 (Below w.heap.size w wc))
 case first=>
  have H:=HC3.out
  clear HC3
  by_cases c6:af=ag
  ·rw[if_pos c6]at H
   have av:(af==ag)=true:=beq_iff_eq.mpr c6
   have aB:(af != ag)=false:=bne_eq_false_iff_eq.mpr c6
   clear c6
   (first|rw[av]|rw[aB]|(simp only[i64_w,i32_w];rw[av])|skip)
   have H':=Aside0.mk H
   clear H
   have bT:=ai.out
   have bU:=aj.out
   have aK:w5.cell? ⟨ah,0,none⟩=some (.int .i64 af):=(blk_cell aa.out 0).trans rfl
   have aL:w5.cell? ⟨ah,1,none⟩=some (.slice an ac.length ao):=(blk_cell aa.out 1).trans rfl
   have aM:=blk_frozen aa.out 0
   have aN:=blk_frozen aa.out 1
   have aO:w5.cell? ⟨ak,0,none⟩=some (.int .i64 ag):=(blk_cell ad.out 0).trans rfl
   have aP:w5.cell? ⟨ak,1,none⟩=some (.slice ar ae.length au):=(blk_cell ad.out 1).trans rfl
   have aQ:=blk_frozen ad.out 0
   have aR:=blk_frozen ad.out 1
   go_wp2
   repeat (go_quiet (fail);try go_wp2)
   go_meet
   case rel=>exact⟨_,(((ac.length:Int) != (ae.length:Int))),J0,H',⟨U3⟩,⟨by(with_reducible repeat (first|refine blk_drewN ?_ _|refine blk_drew ?_|refine blk_alloc ?_ _));exact aa.out⟩,⟨by(with_reducible repeat (first|refine blk_drewN ?_ _|refine blk_drew ?_|refine blk_alloc ?_ _));exact ad.out⟩,⟨by repeat (first|(with_reducible first|exact HB.out|apply below_alloc|apply pw_below_drewN|apply below_drew1|refine below_set ?_ ap.out|refine below_set ?_ aq.out)|exact HB.out)⟩⟩
  rw[if_neg c6]at H
  have av:(af==ag)=false:=beq_eq_false_iff_ne.mpr c6
  have aB:(af != ag)=true:=bne_iff_ne.mpr c6
  (first|rw[av]|rw[aB]|(simp only[i64_w,i32_w];rw[av])|skip)
  have H':=Aside0.mk H
  clear H
  have bI:=ai.out
  have bJ:=aj.out
  have aC:w5.cell? ⟨ah,0,none⟩=some (.int .i64 af):=(blk_cell aa.out 0).trans rfl
  have aD:w5.cell? ⟨ah,1,none⟩=some (.slice an ac.length ao):=(blk_cell aa.out 1).trans rfl
  have aE:=blk_frozen aa.out 0
  have aF:=blk_frozen aa.out 1
  have aG:w5.cell? ⟨ak,0,none⟩=some (.int .i64 ag):=(blk_cell ad.out 0).trans rfl
  have aH:w5.cell? ⟨ak,1,none⟩=some (.slice ar ae.length au):=(blk_cell ad.out 1).trans rfl
  have aI:=blk_frozen ad.out 0
  have aJ:=blk_frozen ad.out 1
  go_wp2
  repeat (go_quiet (fail);try go_wp2)
  go_meet
  case rel=>exact⟨_,(true),J0,H',⟨U3⟩,⟨by(with_reducible repeat (first|refine blk_drewN ?_ _|refine blk_drew ?_|refine blk_alloc ?_ _));exact aa.out⟩,⟨by(with_reducible repeat (first|refine blk_drewN ?_ _|refine blk_drew ?_|refine blk_alloc ?_ _));exact ad.out⟩,⟨by repeat (first|(with_reducible first|exact HB.out|apply below_alloc|apply pw_below_drewN|apply below_drew1|refine below_set ?_ ap.out|refine below_set ?_ aq.out)|exact HB.out)⟩⟩
 case rest=>
  clear HC3
  try clear c1
  try clear p2
  try clear c6
  try clear av
  try clear aB
  try clear c7
  try clear c10
  try clear aC
  try clear aD
  try clear aG
  try clear aH
  try clear aK
  try clear aL
  try clear aO
  try clear aP
  try clear aE
  try clear aF
  try clear aI
  try clear aJ
  try clear aM
  try clear aN
  try clear aQ
  try clear aR
  obtain⟨kq,aA,rfl,HA,HJ2,aa,ad,HB⟩:=hcut
  cases kq with
  | zero=>exact absurd HA.out (by simp[tribunalref09_Same.j0])
  | succ kj2=>
   have H:=HA.out
   clear HA
   simp only[tribunalref09_Same.j0]at H
   by_cases c13:aA=true
   ·subst c13
    have H1:(some false)=some r:=by rw[if_pos rfl]at H;exact H
    clear H
    have H:=H1
    clear H1
    obtain rfl:=Option.some.inj H
    go_wp2
    repeat (go_quiet (fail);try go_wp2)
    go_ret
    exact⟨D0,by repeat (first|(with_reducible first|exact HB.out|apply below_alloc|apply pw_below_drewN|apply below_drew1|refine below_set ?_ ap.out|refine below_set ?_ aq.out)|exact HB.out)⟩
   replace c13:=Bool.eq_false_iff.mpr c13
   subst c13
   have H1:(tribunalref09_Same.l0 kj2 0 af ac ag ae)=some r:=by rw[if_neg (show ¬(false=true) by decide)]at H;exact H
   clear H
   have H:=H1
   clear H1
   have H':=Aside0.mk H
   clear H
   go_wp2
   repeat (go_quiet (fail);try go_wp2)
   go_loopg [5] kj2 (fun kq v5 w'=>∃(ab:Int),v5=.int .i64 ab∧Aside0 (tribunalref09_Same.l0 kq ab af ac ag ae=some r)∧Aside0 (kq≤kj2)∧Aside0 (w'.heap[ah]? = some (.cells #[.int .i64 af,(.slice an ac.length ao)] 28 (0,0)))∧Aside0 (w'.heap[ak]? = some (.cells #[.int .i64 ag,(.slice ar ae.length au)] 28 (0,0)))∧Aside0 (Below w.heap.size w w'))
   case atStart=>exact⟨(0),J0,H',⟨Nat.le_refl _⟩,⟨by(with_reducible repeat (first|refine blk_drewN ?_ _|refine blk_drew ?_|refine blk_alloc ?_ _));exact aa.out⟩,⟨by(with_reducible repeat (first|refine blk_drewN ?_ _|refine blk_drew ?_|refine blk_alloc ?_ _));exact ad.out⟩,⟨by repeat (first|(with_reducible first|exact HB.out|apply below_alloc|apply pw_below_drewN|apply below_drew1|refine below_set ?_ ap.out|refine below_set ?_ aq.out)|exact HB.out)⟩⟩
   case round=>
    clear H'
    try clear c1
    try clear p2
    try clear c6
    try clear av
    try clear aB
    try clear c7
    try clear c10
    try clear c13
    try clear aC
    try clear aD
    try clear aG
    try clear aH
    try clear aK
    try clear aL
    try clear aO
    try clear aP
    try clear aE
    try clear aF
    try clear aI
    try clear aJ
    try clear aM
    try clear aN
    try clear aQ
    try clear aR
    try clear p2
    obtain⟨ab,rfl,HA,HK2,aa,ad,HB⟩:=hrel
    cases gk with
    | zero=>exact absurd HA.out (by simp[tribunalref09_Same.l0])
    | succ k2=>
     have H:=HA.out
     clear HA
     simp only[tribunalref09_Same.l0]at H
     by_cases c14:ab<(ac.length:Int)
     ·rw [if_pos c14]at H
      have bd:decide (ab<(ac.length:Int))=true:=decide_eq_true c14
      clear c14
      by_cases c15:0≤ab
      ·rw[if_pos c15]at H
       have bK:decide (0≤ab)=true:=decide_eq_true c15
       clear c15
       by_cases c16:ab<(ae.length:Int)
       ·rw[if_pos c16]at H
        have bL:decide (ab<(ae.length:Int))=true:=decide_eq_true c16
        clear c16
        by_cases c17:(rd ac ab)=(rd ae ab)
        ·rw[if_pos c17]at H
         have be:((rd ac ab)==(rd ae ab))=true:=beq_iff_eq.mpr c17
         have bf:((rd ac ab) != (rd ae ab))=false:=bne_eq_false_iff_eq.mpr c17
         clear c17
         have H':=Aside0.mk H
         clear H
         have bM:=ai.out
         have bN:=aj.out
         have bi:wr.cell? ⟨ah,0,none⟩=some (.int .i64 af):=(blk_cell aa.out 0).trans rfl
         have bj:wr.cell? ⟨ah,1,none⟩=some (.slice an ac.length ao):=(blk_cell aa.out 1).trans rfl
         have bk:=blk_frozen aa.out 0
         have bl:=blk_frozen aa.out 1
         have aw:0≤(ab:Int):=of_decide_eq_true ‹_›
         have ax:ab<(ac.length:Int):=of_decide_eq_true ‹_›
         obtain⟨bg,aS,al⟩:=Kd.at_int aY.out ab aw ax
         cases aS
         replace al:=(HB.out.cell (World.block_lt_of_cell? w _ al)).trans al
         replace aw:=eq_true aw
         replace ax:=eq_true ax
         have bn:wr.cell? ⟨ak,0,none⟩=some (.int .i64 ag):=(blk_cell ad.out 0).trans rfl
         have bo:wr.cell? ⟨ak,1,none⟩=some (.slice ar ae.length au):=(blk_cell ad.out 1).trans rfl
         have bp:=blk_frozen ad.out 0
         have bq:=blk_frozen ad.out 1
         have ay:0≤(ab:Int):=of_decide_eq_true ‹_›
         have az:ab<(ae.length:Int):=of_decide_eq_true ‹_›
         obtain⟨bh,aT,am⟩:=Kd.at_int aZ.out ab ay az
         cases aT
         replace am:=(HB.out.cell (World.block_lt_of_cell? w _ am)).trans am
         replace ay:=eq_true ay
         replace az:=eq_true az
         go_wp2
         repeat (go_quiet (fail);try go_wp2)
         go_roundg k2
         case measure=>have:=HJ2.out;have:=HK2.out;omega
         case rel=>exact⟨(wrap64 (ab+1)),J0,H',⟨X7⟩,⟨by(with_reducible repeat (first|refine blk_drewN ?_ _|refine blk_drew ?_|refine blk_alloc ?_ _));exact aa.out⟩,⟨by(with_reducible repeat (first|refine blk_drewN ?_ _|refine blk_drew ?_|refine blk_alloc ?_ _));exact ad.out⟩,⟨by repeat (first|(with_reducible first|exact HB.out|apply below_alloc|apply pw_below_drewN|apply below_drew1|refine below_set ?_ ap.out|refine below_set ?_ aq.out)|exact HB.out)⟩⟩
        rw[if_neg c17]at H
        have be:((rd ac ab)==(rd ae ab))=false:=beq_eq_false_iff_ne.mpr c17
        have bf:((rd ac ab) != (rd ae ab))=true:=bne_iff_ne.mpr c17
        obtain rfl:=Option.some.inj H
        have bO:=ai.out
        have bP:=aj.out
        have br:wr.cell? ⟨ah,0,none⟩=some (.int .i64 af):=(blk_cell aa.out 0).trans rfl
        have bu:wr.cell? ⟨ah,1,none⟩=some (.slice an ac.length ao):=(blk_cell aa.out 1).trans rfl
        have bv:=blk_frozen aa.out 0
        have bw:=blk_frozen aa.out 1
        have aw:0≤(ab:Int):=of_decide_eq_true ‹_›
        have ax:ab<(ac.length:Int):=of_decide_eq_true ‹_›
        obtain⟨bg,aS,al⟩:=Kd.at_int aY.out ab aw ax
        cases aS
        replace al:=(HB.out.cell (World.block_lt_of_cell? w _ al)).trans al
        replace aw:=eq_true aw
        replace ax:=eq_true ax
        have bx:wr.cell? ⟨ak,0,none⟩=some (.int .i64 ag):=(blk_cell ad.out 0).trans rfl
        have bz:wr.cell? ⟨ak,1,none⟩=some (.slice ar ae.length au):=(blk_cell ad.out 1).trans rfl
        have bA:=blk_frozen ad.out 0
        have bB:=blk_frozen ad.out 1
        have ay:0≤(ab:Int):=of_decide_eq_true ‹_›
        have az:ab<(ae.length:Int):=of_decide_eq_true ‹_›
        obtain⟨bh,aT,am⟩:=Kd.at_int aZ.out ab ay az
        cases aT
        replace am:=(HB.out.cell (World.block_lt_of_cell? w _ am)).trans am
        replace ay:=eq_true ay
        replace az:=eq_true az
        go_wp2
        repeat (go_quiet (fail);try go_wp2)
        go_ret
        exact⟨D0,by repeat (first|(with_reducible first|exact HB.out|apply below_alloc|apply pw_below_drewN|apply below_drew1|refine below_set ?_ ap.out|refine below_set ?_ aq.out)|exact HB.out)⟩
       rw[if_neg c16]at H
       exact absurd H Z1
      rw[if_neg c15]at H
      exact absurd H Z1
     rw[if_neg c14]at H
     have bd:decide (ab<(ac.length:Int))=false:=decide_eq_false c14
     clear c14
     obtain rfl:=Option.some.inj H
     have bQ:=ai.out
     have bR:=aj.out
     have bC:wr.cell? ⟨ah,0,none⟩=some (.int .i64 af):=(blk_cell aa.out 0).trans rfl
     have bD:wr.cell? ⟨ah,1,none⟩=some (.slice an ac.length ao):=(blk_cell aa.out 1).trans rfl
     have bE:=blk_frozen aa.out 0
     have bF:=blk_frozen aa.out 1
     go_wp2
     repeat (go_quiet (fail);try go_wp2)
     go_ret
     exact⟨D0,by repeat (first|(with_reducible first|exact HB.out|apply below_alloc|apply pw_below_drewN|apply below_drew1|refine below_set ?_ ap.out|refine below_set ?_ aq.out)|exact HB.out)⟩
def whole_trimmed.l0:Nat→List Int→Int→Option (List Int)
 | 0,_,_=>none
 | k+1,x0,x3=>if x3>0 then(if 0≤(wrap64 (x3-1)) then(if(wrap64 (x3-1))<(x0.length:Int) then(if(rd x0 (wrap64 (x3-1)))=0 then(whole_trimmed.l0 k x0 (wrap64 (x3-1))) else(if 0≤x3 then(if x3≤(x0.length:Int) then(some (x0.take (x3:Int).toNat)) else(none)) else(none))) else(none)) else(none)) else(if 0≤x3 then(if x3≤(x0.length:Int) then(some (x0.take (x3:Int).toNat)) else(none)) else(none))
def whole_trimmed.f (k:Nat) (l0:List Int):Option (List Int):=whole_trimmed.l0 k l0 (l0.length:Int)
theorem whole_trimmed.mono_l:∀k,(∀y0 y1,LeO (whole_trimmed.l0 k y0 y1) (whole_trimmed.l0 (k+1) y0 y1))
 | 0=>fun _ _ r h=>by simp[whole_trimmed.l0]at h
 | k+1=>by
  have ih0:=whole_trimmed.mono_l k
  intro y0 y1
  unfold whole_trimmed.l0
  repeat' first
  | (with_reducible exact ih0 _ _)
  | (with_reducible exact LeO.refl _)
  | (with_reducible exact LeO.none _)
  | (with_reducible refine LeO.ite ?_ ?_)
  | (with_reducible refine LeO.bind ?_ (fun _=>?_))
  | exact ih0 _ _
  | exact LeO.none _
  | refine LeO.ite ?_ ?_
  | refine LeO.bind ?_ (fun _=>?_)
theorem whole_trimmed.mono:∀a0 k,LeO (whole_trimmed.f k a0) (whole_trimmed.f (k+1) a0):=by
 intro a0 k
 have ih0:=whole_trimmed.mono_l k
 unfold whole_trimmed.f
 repeat' first
   | (with_reducible exact ih0 _ _)
   | (with_reducible exact LeO.refl _)
   | (with_reducible exact LeO.none _)
   | (with_reducible refine LeO.ite ?_ ?_)
   | (with_reducible refine LeO.bind ?_ (fun _=>?_))
   | exact ih0 _ _
   | exact LeO.none _
   | refine LeO.ite ?_ ?_
   | refine LeO.bind ?_ (fun _=>?_)
theorem whole_trimmed.calls (k:Nat) (P0_:Nat→Prop) (A0:Option Addr) (c0:Nat) (l0:List Int) (r:List Int) (w:World) (hs0:Kd.V (Kd.int .u64) 48 w w.heap.size (fun k_=>P0_ k_) (.slice A0 l0.length c0) l0) (h:whole_trimmed.f k l0=some r) :
  Calls Tryz.prog 93 #[.slice A0 l0.length c0] w fun e w'=>∃v0_:Value,e=.returned (v0_)∧Kd.V (Kd.int .u64) 48 w' w.heap.size (fun k_=>(P0_ k_∨w.heap.size≤k_)) v0_ r∧Below w.heap.size w w':=by
 have HO0:=Aside0.mk (show Kd.V (Kd.int .u64) 48 w w.heap.size (fun k_=>(P0_ k_∨w.heap.size≤k_)) (.slice A0 l0.length c0) l0 from Kd.V_mono hs0 (fun k_ hk=>.inl hk))
 have HB:=Aside0.mk (Below.refl w.heap.size w)
 have H:(whole_trimmed.l0 k l0 (l0.length:Int))=some r:=h
 clear h
 have H':=Aside0.mk H
 clear H
 go_enter Tryz.func93,Tryz.ntmps93
 go_wp2
 go_loopg [3] k (fun kq v3 w'=>∃(aa:Int),v3=.int .i64 aa∧Aside0 (whole_trimmed.l0 kq l0 aa=some r)∧Aside0 (kq≤k)∧Aside0 (Kd.V (Kd.int .u64) 48 w' w.heap.size (fun k_=>(P0_ k_∨w.heap.size≤k_)) (.slice A0 l0.length c0) l0)∧Aside0 (Below w.heap.size w w'))
 case atStart=>exact⟨((l0.length:Int)),J0,H',⟨Nat.le_refl _⟩,⟨kvu HO0.out⟩,⟨khu HB.out⟩⟩
 case round=>
  clear H'
  obtain⟨aa,rfl,HA,HK1,ab,HB⟩:=hrel
  cases gk with
  | zero=>exact absurd HA.out (by simp[whole_trimmed.l0])
  | succ k1=>
   have H:=HA.out
   clear HA
   simp only[whole_trimmed.l0]at H
   by_cases c2:aa>0
   ·rw [if_pos c2]at H
    have aB:decide (0<aa)=true:=decide_eq_true c2
    clear c2
    obtain⟨ji3,hji3⟩:∃j_:Int,(wrap64 (aa-1))=j_:=⟨_,rfl⟩
    replace H:(if 0≤(ji3) then(if(ji3)<(l0.length:Int) then(if(rd l0 (ji3))=0 then(whole_trimmed.l0 k1 l0 ji3) else(if 0≤aa then(if aa≤(l0.length:Int) then(some (l0.take (aa:Int).toNat)) else(none)) else(none))) else(none)) else(none))=some r:=by first|(rw[hji3]at H;exact H)|(simp only[hji3]at H ⊢;exact H)
    have aF:(IntKind.i64.wrap (aa-1))=ji3:=(i64_w _).trans hji3
    by_cases c4:0≤(ji3)
    ·rw [if_pos c4]at H
     have aM:decide (0≤(ji3))=true:=decide_eq_true c4
     clear c4
     by_cases c5:(ji3)<(l0.length:Int)
     ·rw[if_pos c5]at H
      have aN:decide ((ji3)<(l0.length:Int))=true:=decide_eq_true c5
      clear c5
      by_cases c6:(rd l0 (ji3))=0
      ·rw[if_pos c6]at H
       have aC:((rd l0 (ji3))==0)=true:=beq_iff_eq.mpr c6
       have aD:((rd l0 (ji3)) != 0)=false:=bne_eq_false_iff_eq.mpr c6
       clear c6
       have H':=Aside0.mk H
       clear H
       have ac:0≤((ji3):Int):=of_decide_eq_true ‹_›
       have ad:(ji3)<(l0.length:Int):=of_decide_eq_true ‹_›
       obtain⟨ag,al,ar⟩:=Kd.at_int (Kd.V_reads' ab.out).2.2 (ji3) ac ad
       cases al
       replace ac:=eq_true ac
       replace ad:=eq_true ad
       go_wp2
       go_roundg k1
       case measure=>have:=HK1.out;omega
       case rel=>exact⟨(ji3),J4,H',⟨X2⟩,⟨kvu ab.out⟩,⟨khu HB.out⟩⟩
      rw[if_neg c6]at H
      have aC:((rd l0 (ji3))==0)=false:=beq_eq_false_iff_ne.mpr c6
      have aD:((rd l0 (ji3)) != 0)=true:=bne_iff_ne.mpr c6
      by_cases c7:0≤aa
      ·rw[if_pos c7]at H
       have aO:=eq_true c7
       have aP:decide (0≤aa)=true:=decide_eq_true c7
       clear c7
       by_cases c8:aa≤(l0.length:Int)
       ·rw[if_pos c8]at H
        have aQ:=eq_true c8
        have aR:decide (aa≤(l0.length:Int))=true:=decide_eq_true c8
        clear c8
        obtain⟨ah,ae⟩:∃y_:List Int,y_=(l0.take (aa:Int).toNat):=⟨_,rfl⟩
        replace H:(some ah)=some r:=by first|(rw[ae];with_reducible exact H)|(have H2_:=(Option.bind_some _ _).symm.trans H;rw[ae];with_reducible exact H2_)|(have H2_:=(Option.bind_some _ _).symm.trans H;with_reducible exact H2_)|with_reducible exact H|(rw[ae];exact H)|exact H
        have ao:=Aside0.mk ae
        clear ae
        obtain rfl:=Option.some.inj H
        have ac:0≤((ji3):Int):=of_decide_eq_true ‹_›
        have ad:(ji3)<(l0.length:Int):=of_decide_eq_true ‹_›
        obtain⟨ag,al,ar⟩:=Kd.at_int (Kd.V_reads' ab.out).2.2 (ji3) ac ad
        cases al
        replace ac:=eq_true ac
        replace ad:=eq_true ad
        have q9:(aa:Int)≤((l0.length:Int):Int):=of_decide_eq_true ‹_›
        obtain⟨i09,au,_,aE,_⟩:=info_parts info48
        have ak:l0.length≤c0:=(Kd.V_reads' ab.out).2.1
        have hC9:Kd.F (Kd.int .u64) _ _ (some ag) l0.length l0:=(Kd.V_at (base:=w.heap.size) ab.out).2.2
        have ax:=cut_to (P:=Tryz.prog) 25 48 .i64 Tryz.underlying25 au (some ag) l0.length c0 aa (of_decide_eq_true ‹_›) q9 ak
        have hr9:=Kd.F_take (m:=(aa:Int).toNat) hC9 Z0
        have hy9:ah.length=(aa:Int).toNat:=(by rw[ao.out,List.length_take];omega)
        rw[←ao.out]at hr9
        rw[←hy9]at ax
        have ay:=Aside0.mk (show Kd.V (Kd.int .u64) 48 _ w.heap.size _ (.slice (some ag) ah.length c0) ah from Kd.V_mk Z0 hr9)
        have aG:=Aside0.mk (show ah.length≤c0 from by omega)
        clear hr9 hC9 ak au aE
        have KY9:=Aside0.mk hy9
        clear hy9
        replace q9:=eq_true q9
        go_wp2
        go_ret
        exact⟨_,Z2,kvu ay.out,khu HB.out⟩
       rw[if_neg c8]at H
       exact absurd H Z1
      rw[if_neg c7]at H
      exact absurd H Z1
     rw[if_neg c5]at H
     exact absurd H Z1
    rw[if_neg c4]at H
    exact absurd H Z1
   rw[if_neg c2]at H
   have aB:decide (0<aa)=false:=decide_eq_false c2
   clear c2
   by_cases c10:0≤aa
   ·rw[if_pos c10]at H
    have aH:=eq_true c10
    have aI:decide (0≤aa)=true:=decide_eq_true c10
    clear c10
    by_cases c11:aa≤(l0.length:Int)
    ·rw[if_pos c11]at H
     have aJ:=eq_true c11
     have aK:decide (aa≤(l0.length:Int))=true:=decide_eq_true c11
     clear c11
     obtain⟨ai,af⟩:∃y_:List Int,y_=(l0.take (aa:Int).toNat):=⟨_,rfl⟩
     replace H:(some ai)=some r:=by first|(rw[af];with_reducible exact H)|(have H2_:=(Option.bind_some _ _).symm.trans H;rw[af];with_reducible exact H2_)|(have H2_:=(Option.bind_some _ _).symm.trans H;with_reducible exact H2_)|with_reducible exact H|(rw[af];exact H)|exact H
     have ap:=Aside0.mk af
     clear af
     obtain rfl:=Option.some.inj H
     have q12:(aa:Int)≤((l0.length:Int):Int):=of_decide_eq_true ‹_›
     obtain⟨i012,aq,_,az,_⟩:=info_parts info48
     have aj:l0.length≤c0:=(Kd.V_reads' ab.out).2.1
     have av:Kd.F (Kd.int .u64) _ _ A0 l0.length l0:=(Kd.V_at (base:=w.heap.size) ab.out).2.2
     have aw:=cut_to (P:=Tryz.prog) 25 48 .i64 Tryz.underlying25 aq A0 l0.length c0 aa (of_decide_eq_true ‹_›) q12 aj
     have am:=Kd.F_take (m:=(aa:Int).toNat) av Z0
     have an:ai.length=(aa:Int).toNat:=(by rw[ap.out,List.length_take];omega)
     rw[←ap.out]at am
     rw[←an]at aw
     have aA:=Aside0.mk (show Kd.V (Kd.int .u64) 48 _ w.heap.size _ (.slice A0 ai.length c0) ai from Kd.V_mk Z0 am)
     have aL:=Aside0.mk (show ai.length≤c0 from by omega)
     clear am av aj aq az
     have aS:=Aside0.mk an
     clear an
     replace q12:=eq_true q12
     go_wp2
     go_ret
     exact⟨_,D0,kvu aA.out,khu HB.out⟩
    rw[if_neg c11]at H
    exact absurd H Z1
   rw[if_neg c10]at H
   exact absurd H Z1
def whole_amount_null.f (l0:List Int):Option (Bool):=some ((l0.length:Int)==0)
theorem whole_amount_null.calls (A0:Option Addr) (c0:Nat) (l0:List Int) (r:Bool) (w:World) (hr0:Kd.C (Kd.int .u64) w A0 l0.length l0) (hc0:l0.length≤c0) (h:whole_amount_null.f l0=some r) :
  Calls Tryz.prog 94 #[.slice A0 l0.length c0] w fun e w'=>e=.returned (.bool r)∧Drawn0 w w':=by
 have HR0:=Aside0.mk hr0
 have HC0:=Aside0.mk hc0
 clear hr0 hc0
 have H:(some ((l0.length:Int)==0))=some r:=h
 clear h
 obtain rfl:=Option.some.inj H
 go_enter Tryz.func94,Tryz.ntmps94
 go_wp2
 go_ret
 exact⟨J0,Y1⟩
end Go.Proofs.YtncomlmhagaajaaGreat.PBo
namespace Go.Proofs.YtncomlmhagaajaaGreat.Mine
open Go Go.RowKit Go.Proofs.YtncomlmhagaajaaGreatW.PrintWords Go.Proofs.YtncomlmhagaajaaGreatW.PrintLast Go.Proofs.YtncomlmhagaajaaGreatW.PrintMore
abbrev Bx:=Nat×Array Value×TypeId
structure Keep (w:World) (bs:List Bx) (vs:List (Value×List Int)) (W:World):Prop where
 below:Below w.heap.size w W
 blk:∀b∈bs,w.heap.size≤b.1∧W.heap[b.1]? = some (.cells b.2.1 b.2.2 (0,0))
 nod:(bs.map (·.1)).Nodup
 val:∀v∈vs,Kd.V (Kd.int .u64) 48 W 0 (fun k=>∀b∈bs,k≠b.1) v.1 v.2
namespace Keep
variable {w W W':World} {bs bs':List Bx} {vs vs':List (Value×List Int)} {g:Nat} {cs:Array Value} {t:TypeId} {v:Value} {xs:List Int}
theorem refl (w:World):Keep w [] [] w:=⟨Below.refl _ _,fun _ h=>absurd h Z1,List.nodup_nil,fun _ h=>absurd h Z1⟩
theorem up (K:Keep w bs vs W) (hb:Below W.heap.size W W'):Keep w bs vs W':=
 ⟨K.below.trans (hb.mono K.below.size),fun b h=>⟨(K.blk b h).1,blk_below (K.blk b h).2 hb⟩,K.nod,fun v h=>Kd.V_below (K.val v h) hb⟩
theorem u [u:UpO W W'] (K:Keep w bs vs W):Keep w bs vs W':=K.up u.below
theorem add (K:Keep w bs vs W) {base:Nat} {ok:Nat→Prop} (hb:Below W.heap.size W W') (ho:Kd.V (Kd.int .u64) 48 W' base (fun k=>ok k∨W.heap.size≤k) v xs) (hok:∀k,ok k→k<w.heap.size∨∀b∈bs,k≠b.1):Keep w bs ((v,xs)::vs) W':=by
 have K':=K.up hb
 refine⟨K'.below,K'.blk,K'.nod,fun x hx=>?_⟩
 rcases List.mem_cons.1 hx with rfl|hx
 ·refine Kd.V_lower (Kd.V_mono ho fun k hk b hbm=>?_) (Nat.zero_le _)
  have h1:=K.blk b hbm
  have h2:=blk_lt h1.2
  rcases hk with hk|hk
  ·rcases hok k hk with h|h
   ·omega
   exact h b hbm
  omega
 exact K'.val x hx
theorem heap (K:Keep w bs vs W) (n:Nat) (hn:bs[n]? = some (g,cs,t)):W.heap[g]? = some (.cells cs t (0,0)):=(K.blk _ (List.mem_of_getElem? hn)).2
theorem V (K:Keep w bs vs W) (n:Nat) (hn:vs[n]? = some (v,xs)):Kd.V (Kd.int .u64) 48 W W.heap.size (fun k=>∀b∈bs,k≠b.1) v xs:=K.val _ (List.mem_of_getElem? hn)
theorem slice (K:Keep w bs vs W) (n:Nat) (hn:vs[n]? = some (v,xs)):∃A c,v=.slice A xs.length c:=Kd.V_slice (K.V n hn)
theorem C (K:Keep w bs vs W) (n:Nat) {A:Option Addr} {c:Nat} (hn:vs[n]? = some (.slice A xs.length c,xs)):Kd.C (Kd.int .u64) W A xs.length xs:=(Kd.V_reads' (K.V n hn)).2.2
end Keep
theorem bindA {α β:Type} {o:Option α} {f:α→Option β} {r:β} (h:o.bind f=some r):∃a,Aside0 (o=some a)∧f a=some r:=by
 obtain⟨a,h1,h2⟩:=Option.bind_eq_some_iff.mp h
 exact⟨a,⟨h1⟩,h2⟩
theorem kls:(∀l:List Bx,[]++l=l)∧(∀(x:Bx) (l m:List Bx),x::l++m=x::(l++m))∧(∀(xs:List Bx) (x a:Bx),(x::xs).set 0 a=a::xs)∧(∀(xs:List Bx) (x a:Bx) (i:Nat),(x::xs).set (i+1) a=x::xs.set i a):=
 ⟨fun _=>rfl,fun _ _ _=>rfl,fun _ _ _=>rfl,fun _ _ _ _=>rfl⟩
section
variable {P:Program} {ops:Array Oper} {Q:Exit→Act→World→Prop} {md:Region.Mode} {S:World→Prop} {ds:List Nat}
theorem kbx {o:Oper} {a:Act} {W:World} {Kc:Act→World→Prop} (cs:Array Value) (t:TypeId) (N:Tmp)
  (h:∀g,g=W.heap.size→∀w1,w1.heap[g]? = some (.cells cs t (0,0))→Below W.heap.size W w1→Kc (a.put o.dst (.pointer (some ⟨g,0,none⟩))) w1)
  (hg:Region.wanted o (yielded ops a.tmps)=true:=by rfl) (hd:o.dst=some N:=by rfl) (hr:(execOp a.eval o).run P W=.ok (.value (.pointer (some ⟨W.heap.size,0,none⟩))) (W.alloc (.cells cs t (0,0))):=by first|(go_simp;done)|(go_simp;rfl)):if Region.wanted o (yielded ops a.tmps)=true then Oper.wp P o a W Kc Q else Kc (a.put o.dst undef) W:=
 box_step hg hd hr h
theorem knq {fuel:Nat} {l:Array Bool} {a a':Act} {w:World} (h:wpAnyLast P md ops Q S ds fuel l a' w) (ha:a=a':=by first|(simp only[putAll,Act.put,kss,i64_w,i32_w];done)|(simp only[putAll,Act.put,kss,i64_w,i32_w];rfl)|rfl):wpAnyLast P md ops Q S ds fuel l a w:=norm_ ha h
end
end Go.Proofs.YtncomlmhagaajaaGreat.Mine
namespace Go.Proofs.YtncomlmhagaajaaGreat.Mine
open Go Go.RowKit Go.Proofs.YtncomlmhagaajaaGreatW.PrintWords Go.Proofs.YtncomlmhagaajaaGreatW.PrintLast Go.Proofs.YtncomlmhagaajaaGreatW.PrintMore
structure KV where
 {α:Type}
 kd:Kd α
 e:TypeId
 v:Value
 xs:List α
 ok:Nat→Prop
def KOk (n:Nat) (bs:List Bx) (ok:Nat→Prop) (k:Nat):Prop:=(ok k∨n≤k)∧∀b∈bs,k≠b.1
structure Kp (w:World) (bs:List Bx) (vs os:List KV) (W:World):Prop where
 below:Below w.heap.size w W
 blk:∀b∈bs,w.heap.size≤b.1∧W.heap[b.1]? = some (.cells b.2.1 b.2.2 (0,0))
 nod:(bs.map (·.1)).Nodup
 val:∀v∈vs,Kd.V v.kd v.e W 0 (KOk w.heap.size bs v.ok) v.v v.xs
 own:∀v∈os,v.kd.R v.e W w.heap.size (fun k=>∀b∈bs,k≠b.1) v.v v.xs
 sep:os.Pairwise fun a b=>∀k,a.v.ownBlock=some k→b.v.ownBlock≠some k
theorem mem_insI {α:Type _} {a b:α}:∀ {l:List α} {i:Nat},a∈l.insertIdx i b→a=b∨a∈l:=fun {l i} h=>by
 by_cases hi:i≤l.length
 ·exact(List.mem_insertIdx hi).1 h
 exact .inr (by rwa [List.insertIdx_of_length_lt Z0]at h)
namespace Kp
variable {w W W':World} {bs bs':List Bx} {vs vs' os os':List KV} {g:Nat} {cs:Array Value} {t:TypeId}
theorem refl (w:World):Kp w [] [] [] w:=⟨Below.refl _ _,fun _ h=>absurd h Z1,List.nodup_nil,fun _ h=>absurd h Z1,fun _ h=>absurd h Z1,List.Pairwise.nil⟩
theorem parV {α:Type} {kd:Kd α} {e base:Nat} {v:Value} {xs:List α} {P:Nat→Prop} (K:Kp w [] vs os w) (h:Kd.V kd e w base P v xs):Kp w [] (vs++[⟨kd,e,v,xs,P⟩]) os w:=
 ⟨K.below,K.blk,K.nod,fun x hx=>by
  rcases List.mem_append.1 hx with hx|hx
  ·exact K.val x hx
  obtain rfl:=List.mem_singleton.1 hx
  exact Kd.V_lower (Kd.V_mono h fun k hk=>⟨.inl hk,fun b hb=>absurd hb Z1⟩) (Nat.zero_le _),K.own,K.sep⟩
theorem up (K:Kp w bs vs os W) (hb:Below W.heap.size W W'):Kp w bs vs os W':=
 ⟨K.below.trans (hb.mono K.below.size),fun b h=>⟨(K.blk b h).1,blk_below (K.blk b h).2 hb⟩,K.nod,fun v h=>Kd.V_below (K.val v h) hb,fun v h=>Kd.R_below (K.own v h) hb,K.sep⟩
theorem u [u:UpO W W'] (K:Kp w bs vs os W):Kp w bs vs os W':=K.up u.below
theorem perm (K:Kp w bs vs os W) (hp:bs.Perm bs'):Kp w bs' vs os W:=
 ⟨K.below,fun b h=>K.blk b (hp.mem_iff.2 h),(hp.map _).nodup_iff.1 K.nod,fun v h=>Kd.V_mono (K.val v h) fun _ hk=>⟨hk.1,fun b hb=>hk.2 b (hp.mem_iff.2 hb)⟩,fun v h=>Kd.R_mono (K.own v h) fun _ hk b hb=>hk b (hp.mem_iff.2 hb),K.sep⟩
theorem box (K:Kp w bs vs os W) (hg:g=W.heap.size) (hx:W'.heap[g]? = some (.cells cs t (0,0))) (hb:Below W.heap.size W W'):Kp w (bs++[(g,cs,t)]) vs os W':=by
 have K':=K.up hb
 refine⟨K'.below,fun b h=>?_,?_,fun v h=>?_,fun v h=>?_,K.sep⟩
 ·rcases List.mem_append.1 h with h|h
  ·exact K'.blk b h
  obtain rfl:=List.mem_singleton.1 h
  exact⟨by rw[hg];exact below_size K.below,hx⟩
 ·rw[List.map_append,List.nodup_append]
  refine⟨K.nod,Z1,fun a ha b hb'=>?_⟩
  obtain rfl:b=g:=by simpa using hb'
  obtain⟨c,hc,rfl⟩:=List.mem_map.1 ha
  have:=blk_lt (K.blk c hc).2
  omega
 ·refine Kd.V_mono (Kd.V_below (Kd.V_elderB (K.val v h) g (Nat.le_of_eq hg.symm)) hb) fun k hk=>⟨hk.1.1,fun b hbm=>?_⟩
  rcases List.mem_append.1 hbm with hm|hm
  ·exact hk.1.2 b hm
  obtain rfl:=List.mem_singleton.1 hm
  exact hk.2
 refine Kd.R_mono (Kd.R_below (Kd.R_elderB (K.own v h) g (Nat.le_of_eq hg.symm)) hb) fun k hk b hbm=>?_
 rcases List.mem_append.1 hbm with hm|hm
 ·exact hk.1 b hm
 obtain rfl:=List.mem_singleton.1 hm
 exact hk.2
theorem boxI {l:List Bx} (i:Nat) (K:Kp w (bs++l) vs os W) (hi:i≤l.length) (hg:g=W.heap.size) (hx:W'.heap[g]? = some (.cells cs t (0,0))) (hb:Below W.heap.size W W'):Kp w (bs++l.insertIdx i (g,cs,t)) vs os W':=by
 refine(K.box hg hx hb).perm ?_
 rw[List.append_assoc]
 refine List.Perm.append_left _ (List.Perm.trans ?_ (List.perm_insertIdx (g,cs,t) l hi).symm)
 exact List.perm_append_comm (l₂:=[(g,cs,t)])
theorem out (K:Kp w bs vs os W) {k:Nat} (h:W.heap.size≤k) (ok:Nat→Prop):KOk w.heap.size bs ok k:=
 ⟨.inr (Nat.le_trans (below_size K.below) h),fun b hb e=>by have:=blk_lt (K.blk b hb).2;omega⟩
theorem add {α:Type} {kd:Kd α} {e base:Nat} {v:Value} {xs:List α} {ok:Nat→Prop} (okn:Nat→Prop) (K:Kp w bs vs os W) (hb:Below W.heap.size W W') (ho:Kd.V kd e W' base (fun k=>ok k∨W.heap.size≤k) v xs) (hok:∀k,ok k→KOk w.heap.size bs okn k):Kp w bs (vs++[⟨kd,e,v,xs,okn⟩]) os W':=by
 have K':=K.up hb
 refine⟨K'.below,K'.blk,K'.nod,fun x hx=>?_,K'.own,K'.sep⟩
 rcases List.mem_append.1 hx with hx|hx
 ·exact K'.val x hx
 obtain rfl:=List.mem_singleton.1 hx
 exact Kd.V_lower (Kd.V_mono ho fun k hk=>hk.elim (hok k) fun h=>K.out h okn) (Nat.zero_le _)
theorem addR2 {α β:Type} {kd:Kd α} {kd2:Kd β} {e e2:Nat} {v v2:Value} {xs:List α} {xs2:List β} (K:Kp w bs vs os W) (hb:Below W.heap.size W W') (ho:kd.R e W' W.heap.size (fun k=>some k≠v2.ownBlock) v xs) (ho2:kd2.R e2 W' W.heap.size (fun k=>some k≠v.ownBlock) v2 xs2) :
  Kp w bs (vs++[⟨kd,e,v,xs,fun _=>False⟩]++[⟨kd2,e2,v2,xs2,fun _=>False⟩]) (os++[⟨kd,e,v,xs,fun _=>True⟩]++[⟨kd2,e2,v2,xs2,fun _=>True⟩]) W':=by
 have K1:=K.add (base:=0) (ok:=fun _=>False) (fun _=>False) hb (Kd.V_mono (Kd.R_V (Kd.R_bound ho)) fun k hk=>.inr hk.2.1) (fun k h=>h.elim)
 have K2:=K.add (base:=0) (ok:=fun _=>False) (fun _=>False) hb (Kd.V_mono (Kd.R_V (Kd.R_bound ho2)) fun k hk=>.inr hk.2.1) (fun k h=>h.elim)
 have K':=K.up hb
 have hk1:∀k,W.heap.size≤k→∀b∈bs,k≠b.1:=fun k hk b hb e=>by have:=blk_lt (K.blk b hb).2;omega
 refine⟨K'.below,K'.blk,K'.nod,fun x hx=>?_,fun x hx=>?_,?_⟩
 ·rcases List.mem_append.1 hx with hx|hx
  ·exact K1.val x hx
  exact K2.val x (List.mem_append_right _ hx)
 ·rcases List.mem_append.1 hx with hx|hx
  ·rcases List.mem_append.1 hx with hx|hx
   ·exact K'.own x hx
   obtain rfl:=List.mem_singleton.1 hx
   exact Kd.R_lower (Kd.R_mono (Kd.R_bound ho) fun k hk=>hk1 k hk.2.1) (below_size K.below)
  obtain rfl:=List.mem_singleton.1 hx
  exact Kd.R_lower (Kd.R_mono (Kd.R_bound ho2) fun k hk=>hk1 k hk.2.1) (below_size K.below)
 rw[List.pairwise_append,List.pairwise_append]
 refine⟨⟨K.sep,List.pairwise_singleton _ _,fun a ha b hb' k h1 h2=>?_⟩,List.pairwise_singleton _ _,fun a ha b hb' k h1 h2=>?_⟩
 ·obtain rfl:=List.mem_singleton.1 hb'
  have g1:=Kd.R_base ho k h2
  have g2:=Kd.R_lt (K.own a ha) k h1
  omega
 obtain rfl:=List.mem_singleton.1 hb'
 rcases List.mem_append.1 ha with ha|ha
 ·have g1:=Kd.R_base ho2 k h2
  have g2:=Kd.R_lt (K.own a ha) k h1
  omega
 obtain rfl:=List.mem_singleton.1 ha
 exact ho.1 k h1 h2.symm
theorem put (K:Kp w bs vs os W) (n:Nat) (hn:bs[n]? = some (g,cs,t)) (i:Nat) (x:Value) (e:bs.set n (g,cs.setIfInBounds i x,t)=bs'):Kp w bs' vs os (W.setCell ⟨g,i,none⟩ x):=by
 subst e
 have hm:=List.mem_of_getElem? hn
 have hlt:n<bs.length:=(List.getElem?_eq_some_iff.1 hn).1
 have hmap:(bs.set n (g,cs.setIfInBounds i x,t)).map (·.1)=bs.map (·.1):=by
  rw[List.map_set]
  refine List.ext_getElem? fun j=>?_
  rw[List.getElem?_set]
  by_cases hj:n=j
  ·subst hj
   simp[hn]
   exact hlt
  rw[if_neg hj]
 have hge:=(K.blk _ hm).1
 have hmem:∀k,(∀b∈bs,k≠b.1)↔∀b∈bs.set n (g,cs.setIfInBounds i x,t),k≠b.1:=fun k=>by
  have h1:∀l:List Bx,(∀b∈l,k≠b.1)↔k∉l.map (·.1):=fun l=>⟨fun h hm=>by obtain⟨b,hb,e⟩:=List.mem_map.1 hm;exact h b hb e.symm,fun h b hb e=>h (List.mem_map.2 ⟨b,hb,e.symm⟩)⟩
  rw[h1,h1,hmap]
 refine⟨below_set K.below hge,fun b hb=>?_,by rw[hmap];exact K.nod,fun v hv=>Kd.V_mono (Kd.V_far (p:=⟨g,i,none⟩) (K.val v hv) (fun k hk=>hk.2 _ hm) x) fun k hk=>⟨hk.1,(hmem k).1 hk.2⟩,fun v hv=>Kd.R_mono (Kd.R_far (p:=⟨g,i,none⟩) (K.own v hv) (fun k hk=>hk _ hm) x) fun k hk=>(hmem k).1 hk,K.sep⟩
 obtain⟨j,hj⟩:=List.getElem?_of_mem hb
 rw[List.getElem?_set]at hj
 by_cases hnj:n=j
 ·subst hnj
  rw[if_pos rfl,if_pos hlt]at hj
  obtain rfl:=Option.some.inj hj
  exact⟨hge,blk_put (K.blk _ hm).2 i x rfl⟩
 rw[if_neg hnj]at hj
 have hb':=List.mem_of_getElem? hj
 have hne:b.1≠g:=fun e=>hnj (by
  have h1:(bs.map (·.1))[n]? = some g:=by rw[List.getElem?_map,hn];rfl
  have h2:(bs.map (·.1))[j]? = some g:=by rw[List.getElem?_map,hj,←e];rfl
  exact(List.getElem?_inj (by simpa using hlt) K.nod).1 (h1.trans h2.symm))
 exact⟨(K.blk b hb').1,blk_far (K.blk b hb').2 (p:=⟨g,i,none⟩) hne x⟩
theorem sub (K:Kp w bs vs os W) (h:∀v∈vs',v∈vs):Kp w bs vs' os W:=⟨K.below,K.blk,K.nod,fun v hv=>K.val v (h v hv),K.own,K.sep⟩
theorem heap (K:Kp w bs vs os W) (n:Nat) (hn:bs[n]? = some (g,cs,t)):W.heap[g]? = some (.cells cs t (0,0)):=(K.blk _ (List.mem_of_getElem? hn)).2
theorem cell (K:Kp w bs vs os W) (n:Nat) (hn:bs[n]? = some (g,cs,t)) (i:Nat) {x:Value} (hx:cs[i]? = some x):W.cell? ⟨g,i,none⟩=some x:=(blk_cell (K.heap n hn) i).trans hx
theorem fz (K:Kp w bs vs os W) (n:Nat) (hn:bs[n]? = some (g,cs,t)) (i:Nat):W.frozen? ⟨g,i,none⟩=false:=blk_frozen (K.heap n hn) i
section
variable {α:Type} {kd:Kd α} {e:Nat} {v:Value} {xs:List α} {ok:Nat→Prop}
theorem V (K:Kp w bs vs os W) (n:Nat) (hn:vs[n]? = some ⟨kd,e,v,xs,ok⟩):Kd.V kd e W W.heap.size (KOk w.heap.size bs ok) v xs:=K.val _ (List.mem_of_getElem? hn)
theorem slice (K:Kp w bs vs os W) (n:Nat) (hn:vs[n]? = some ⟨kd,e,v,xs,ok⟩):∃A c,v=.slice A xs.length c:=Kd.V_slice (K.V n hn)
theorem C (K:Kp w bs vs os W) (n:Nat) {A:Option Addr} {c:Nat} (hn:vs[n]? = some ⟨kd,e,.slice A xs.length c,xs,ok⟩):Kd.C kd W A xs.length xs:=(Kd.V_reads' (K.V n hn)).2.2
theorem le (K:Kp w bs vs os W) (n:Nat) {A:Option Addr} {c:Nat} (hn:vs[n]? = some ⟨kd,e,.slice A xs.length c,xs,ok⟩):xs.length≤c:=(Kd.V_reads' (K.V n hn)).2.1
theorem hand (K:Kp w bs vs os W) (n:Nat) (hn:vs[n]? = some ⟨kd,e,v,xs,ok⟩) {P:Nat→Prop} (hP:∀k,ok k∨w.heap.size≤k→P k):Kd.V kd e W w.heap.size P v xs:=Kd.V_mono (K.V n hn) fun k hk=>hP k hk.1
theorem R (K:Kp w bs vs os W) (n:Nat) (hn:os[n]? = some ⟨kd,e,v,xs,ok⟩):kd.R e W w.heap.size (fun _=>True) v xs:=Kd.R_mono (K.own _ (List.mem_of_getElem? hn)) fun _ _=>trivial
theorem Rne (K:Kp w bs vs os W) (n:Nat) (hE:kd.E=[]) (hn:os[n]? = some ⟨kd,e,v,xs,ok⟩) {P:Nat→Prop} (hP:∀k,v.ownBlock=some k→P k):kd.R e W w.heap.size P v xs:=Kd.R_reok hE (K.own _ (List.mem_of_getElem? hn)) hP
theorem apart (K:Kp w bs vs os W) (n m:Nat) {β:Type} {kd2:Kd β} {e2:Nat} {v2:Value} {ys:List β} {ok2:Nat→Prop} (hn:os[n]? = some ⟨kd,e,v,xs,ok⟩) (hm:os[m]? = some ⟨kd2,e2,v2,ys,ok2⟩) (hne:n≠m):∀k,v.ownBlock=some k→some k≠v2.ownBlock:=by
 intro k h1 h2
 obtain⟨ln,en⟩:=List.getElem?_eq_some_iff.1 hn
 obtain⟨lm,em⟩:=List.getElem?_eq_some_iff.1 hm
 have hs:=List.pairwise_iff_getElem.1 K.sep
 rcases Nat.lt_or_gt_of_ne hne with h|h
 ·have:=hs n m ln lm h k (by rw[en];exact h1)
  rw[em]at this
  exact this h2.symm
 have:=hs m n lm ln h k (by rw[em];exact h2.symm)
 rw[en]at this
 exact this h1
end
end Kp
theorem mem_appI {α:Type _} {a b:α} {l m:List α} {i:Nat} (h:a∈m++l.insertIdx i b):a=b∨a∈m++l:=by
 rcases List.mem_append.1 h with h|h
 ·exact .inr (List.mem_append_left _ h)
 exact(mem_insI h).imp_right (List.mem_append_right _)
theorem perm_appI {α:Type _} {b:α} {l m:List α} {i:Nat} (hi:i≤l.length):(m++l.insertIdx i b).Perm (b::(m++l)):=
 ((List.perm_insertIdx b l hi).append_left m).trans List.perm_middle
namespace Kp
variable {w W W':World} {bs:List Bx} {vs vs' os l l':List KV}
theorem addI {α:Type} {kd:Kd α} {e base:Nat} {v:Value} {xs:List α} {ok:Nat→Prop} (i:Nat) (okn:Nat→Prop) (K:Kp w bs (vs++l) os W) (hb:Below W.heap.size W W') (ho:Kd.V kd e W' base (fun k=>ok k∨W.heap.size≤k) v xs) (hok:∀k,ok k→KOk w.heap.size bs okn k):Kp w bs (vs++l.insertIdx i ⟨kd,e,v,xs,okn⟩) os W':=by
 have K':=K.up hb
 refine⟨K'.below,K'.blk,K'.nod,fun x hx=>?_,K'.own,K'.sep⟩
 rcases mem_appI hx with rfl|hx
 ·exact Kd.V_lower (Kd.V_mono ho fun k hk=>hk.elim (hok k) fun h=>K.out h okn) (Nat.zero_le _)
 exact K'.val x hx
theorem addFI {α:Type} {kd:Kd α} {e base:Nat} {v:Value} {xs:List α} (i:Nat) (okn:Nat→Prop) (K:Kp w bs (vs++l) os W) (hb:Below W.heap.size W W') (ho:Kd.V kd e W' base (fun k=>W.heap.size≤k) v xs):Kp w bs (vs++l.insertIdx i ⟨kd,e,v,xs,okn⟩) os W':=
 K.addI (ok:=fun _=>False) i okn hb (Kd.V_mono ho fun _ h=>.inr h) fun _ h=>h.elim
theorem moreI {α:Type} {kd:Kd α} {e base:Nat} {v:Value} {xs:List α} {ok:Nat→Prop} (i:Nat) (okn:Nat→Prop) (K:Kp w bs vs' os W) (K2:Kp w bs (vs++l) os W') (ho:Kd.V kd e W' base (fun k=>ok k∨W.heap.size≤k) v xs) (hok:∀k,ok k→KOk w.heap.size bs okn k):Kp w bs (vs++l.insertIdx i ⟨kd,e,v,xs,okn⟩) os W':=by
 refine⟨K2.below,K2.blk,K2.nod,fun x hx=>?_,K2.own,K2.sep⟩
 rcases mem_appI hx with rfl|hx
 ·exact Kd.V_lower (Kd.V_mono ho fun k hk=>hk.elim (hok k) fun h=>K.out h okn) (Nat.zero_le _)
 exact K2.val x hx
theorem ownI {α:Type} {kd:Kd α} {e:Nat} {v:Value} {xs:List α} {ok:Nat→Prop} (i:Nat) (K:Kp w bs vs (os++l) W) (hb:Below W.heap.size W W') (ho:kd.R e W' W.heap.size ok v xs) (hi:i≤l.length):Kp w bs vs (os++l.insertIdx i ⟨kd,e,v,xs,fun _=>True⟩) W':=by
 have K':=K.up hb
 have hk1:∀k,W.heap.size≤k→∀b∈bs,k≠b.1:=fun k hk b hb e=>by have:=blk_lt (K.blk b hb).2;omega
 refine⟨K'.below,K'.blk,K'.nod,K'.val,fun x hx=>?_,?_⟩
 ·rcases mem_appI hx with rfl|hx
  ·exact Kd.R_lower (Kd.R_mono (Kd.R_bound ho) fun k hk=>hk1 k hk.2.1) (below_size K.below)
  exact K'.own x hx
 refine((perm_appI hi).symm.pairwise_iff (fun {_ _} h k h1 h2=>h k h2 h1)).1 (List.pairwise_cons.2 ⟨fun b hbm k h1 h2=>?_,K.sep⟩)
 have g1:=Kd.R_base ho k h1
 have g2:=Kd.R_lt (K.own b hbm) k h2
 omega
theorem addRI {α:Type} {kd:Kd α} {e:Nat} {v:Value} {xs:List α} {ok:Nat→Prop} (j i:Nat) (K:Kp w bs (vs++l) (os++l') W) (hb:Below W.heap.size W W') (ho:kd.R e W' W.heap.size ok v xs) (hi:i≤l'.length):Kp w bs (vs++l.insertIdx j ⟨kd,e,v,xs,fun _=>False⟩) (os++l'.insertIdx i ⟨kd,e,v,xs,fun _=>True⟩) W':=by
 have K1:=K.addFI (base:=0) j (fun _=>False) hb (Kd.V_mono (Kd.R_V (Kd.R_bound ho)) fun k hk=>hk.2.1)
 have K2:=K.ownI i hb ho hi
 exact⟨K2.below,K2.blk,K2.nod,K1.val,K2.own,K2.sep⟩
theorem addRE {α:Type} {kd:Kd α} {e:Nat} {v:Value} {xs:List α} {ok:Nat→Prop} (K:Kp w bs vs os W) (hb:Below W.heap.size W W') (ho:kd.R e W' W.heap.size ok v xs):Kp w bs (vs++[⟨kd,e,v,xs,fun _=>False⟩]) (os++[⟨kd,e,v,xs,fun _=>True⟩]) W':=by
 have K0:Kp w bs (vs++[]) (os++[]) W:=by simpa using K
 exact K0.addRI 0 0 hb ho (Nat.le_refl _)
end Kp
theorem KOk.t {n k:Nat} {bs:List Bx} {ok:Nat→Prop} (h:KOk n bs ok k):KOk n bs (fun _=>True) k:=⟨.inl trivial,h.2⟩
theorem KOk.l {n k:Nat} {bs:List Bx} {ok ok2:Nat→Prop} (h:KOk n bs ok k):KOk n bs (fun k=>ok k∨ok2 k) k:=⟨h.1.elim (fun h=>.inl (.inl h)) .inr,h.2⟩
theorem KOk.r {n k:Nat} {bs:List Bx} {ok ok2:Nat→Prop} (h:KOk n bs ok2 k):KOk n bs (fun k=>ok k∨ok2 k) k:=⟨h.1.elim (fun h=>.inl (.inr h)) .inr,h.2⟩
namespace Kp
variable {w W W':World} {bs bs':List Bx} {vs vs' os os':List KV} {g:Nat} {cs:Array Value} {t:TypeId}
theorem addF {α:Type} {kd:Kd α} {e base:Nat} {v:Value} {xs:List α} (okn:Nat→Prop) (K:Kp w bs vs os W) (hb:Below W.heap.size W W') (ho:Kd.V kd e W' base (fun k=>W.heap.size≤k) v xs):Kp w bs (vs++[⟨kd,e,v,xs,okn⟩]) os W':=
 K.add (ok:=fun _=>False) okn hb (Kd.V_mono ho fun _ h=>.inr h) fun _ h=>h.elim
theorem more {α:Type} {kd:Kd α} {e base:Nat} {v:Value} {xs:List α} {ok:Nat→Prop} (okn:Nat→Prop) (K:Kp w bs vs os W) (K2:Kp w bs vs' os W') (ho:Kd.V kd e W' base (fun k=>ok k∨W.heap.size≤k) v xs) (hok:∀k,ok k→KOk w.heap.size bs okn k):Kp w bs (vs'++[⟨kd,e,v,xs,okn⟩]) os W':=by
 refine⟨K2.below,K2.blk,K2.nod,fun x hx=>?_,K2.own,K2.sep⟩
 rcases List.mem_append.1 hx with hx|hx
 ·exact K2.val x hx
 obtain rfl:=List.mem_singleton.1 hx
 exact Kd.V_lower (Kd.V_mono ho fun k hk=>hk.elim (hok k) fun h=>K.out h okn) (Nat.zero_le _)
theorem moreF {α:Type} {kd:Kd α} {e base:Nat} {v:Value} {xs:List α} (okn:Nat→Prop) (K:Kp w bs vs os W) (K2:Kp w bs vs' os W') (ho:Kd.V kd e W' base (fun k=>W.heap.size≤k) v xs):Kp w bs (vs'++[⟨kd,e,v,xs,okn⟩]) os W':=
 K.more (ok:=fun _=>False) okn K2 (Kd.V_mono ho fun _ h=>.inr h) fun _ h=>h.elim
theorem cell2 (K:Kp w bs vs os W) (n:Nat) {x y:Value} (hn:bs[n]? = some (g,#[x,y],t)):W.cell? ⟨g,0,none⟩=some x∧W.cell? ⟨g,1,none⟩=some y:=⟨K.cell n hn 0 rfl,K.cell n hn 1 rfl⟩
theorem abs (K:Kp w bs vs os W):∃B V O,Aside0 (B=bs)∧Aside0 (V=vs)∧Aside0 (O=os)∧Kp w (B++[]) (V++[]) (O++[]) W:=⟨bs,vs,os,⟨rfl⟩,⟨rfl⟩,⟨rfl⟩,by simpa using K⟩
theorem put2 (K:Kp w bs vs os W) (n:Nat) {x y:Value} (x' y':Value) (hn:bs[n]? = some (g,#[x,y],t)):Kp w (bs.set n (g,#[x',y'],t)) vs os ((W.setCell ⟨g,0,none⟩ x').setCell ⟨g,1,none⟩ y'):=by
 have hlt:n<bs.length:=(List.getElem?_eq_some_iff.1 hn).1
 have K1:=K.put n hn 0 x' rfl
 have K2:=K1.put n (g:=g) (cs:=#[x',y]) (t:=t) (by rw[List.getElem?_set_self hlt];rfl) 1 y' rfl
 rw[List.set_set]at K2
 exact K2
variable {w W W':World} {bs:List Bx} {vs vs' os os' l l':List KV}
theorem permO (K:Kp w bs vs os W) (hp:os.Perm os'):Kp w bs vs os' W:=
 ⟨K.below,K.blk,K.nod,K.val,fun v h=>K.own v (hp.mem_iff.2 h),(hp.pairwise_iff (fun {_ _} h k h1 h2=>h k h2 h1)).1 K.sep⟩
theorem addR2I {α β:Type} {kd:Kd α} {kd2:Kd β} {e e2:Nat} {v v2:Value} {xs:List α} {xs2:List β} (j i:Nat) (K:Kp w bs (vs++l) (os++l') W) (hb:Below W.heap.size W W') (ho:kd.R e W' W.heap.size (fun k=>some k≠v2.ownBlock) v xs) (ho2:kd2.R e2 W' W.heap.size (fun k=>some k≠v.ownBlock) v2 xs2) (hi:i≤l'.length) :
  Kp w bs (vs++(l.insertIdx j ⟨kd,e,v,xs,fun _=>False⟩).insertIdx (j+1) ⟨kd2,e2,v2,xs2,fun _=>False⟩) (os++(l'.insertIdx i ⟨kd,e,v,xs,fun _=>True⟩).insertIdx (i+1) ⟨kd2,e2,v2,xs2,fun _=>True⟩) W':=by
 have K1:=K.addR2 hb ho ho2
 refine(K1.sub (fun x hx=>?_)).permO ?_
 ·simp only[List.mem_append,List.mem_singleton]
  rcases mem_appI hx with h|h
  ·exact .inr h
  rcases mem_appI h with h|h
  ·exact .inl (.inr h)
  exact .inl (.inl (List.mem_append.1 h))
 have h1:i+1≤(l'.insertIdx i ⟨kd,e,v,xs,fun _=>True⟩).length:=by rw[List.length_insertIdx_of_le_length hi];omega
 have h2:=((perm_appI (m:=os) (b:=(⟨kd2,e2,v2,xs2,fun _=>True⟩:KV)) h1).trans ((perm_appI (m:=os) hi).cons _)).symm
 refine List.Perm.trans ?_ h2
 refine List.Perm.trans List.perm_append_comm ?_
 exact(List.perm_append_comm (l₂:=[(⟨kd,e,v,xs,fun _=>True⟩:KV)])).cons _
end Kp
section
variable {P:Program} {ops:Array Oper} {Q:Exit→Act→World→Prop} {rest:List Oper} {o:Oper} {a:Act} {w W:World} {bs vs os} {g t:Nat} {a0 b0:Value} {md:Region.Mode} {S:World→Prop} {ds:List Nat}
theorem kst2 (n:Nat) (x y:Value) (K:Kp w bs vs os W) (hn:bs[n]? = some (g,#[a0,b0],t))
  (hrun:W.cell? ⟨g,0,none⟩=some a0→W.cell? ⟨g,1,none⟩=some b0→W.frozen? ⟨g,0,none⟩=false→W.frozen? ⟨g,1,none⟩=false→(execOp a.eval o).run P W=.ok .skip ((W.setCell ⟨g,0,none⟩ x).setCell ⟨g,1,none⟩ y))
  (h:∀W1,Kp w (bs.set n (g,#[x,y],t)) vs os W1→wpList P ops Q rest a W1) (hd:o.dst=none:=by rfl) (hgd:o.guard=none:=by rfl):wpList P ops Q (o::rest) a W:=
 wpList_plain hgd fun K' hK=>by
  have c:=K.cell2 n hn
  unfold Oper.wp
  rw[hrun c.1 c.2 (K.fz n hn 0) (K.fz n hn 1)]
  show K' (a.put o.dst undef) _
  rw[hd]
  exact hK _ _ (h _ (K.put2 n x y hn))
theorem klast2 {i:Nat} {oi:Oper} {fuel:Nat} {l:Array Bool} (l':Array Bool) (n:Nat) (x y:Value) (K:Kp w bs vs os W) (hn:bs[n]? = some (g,#[a0,b0],t)) (hi:ops[i]? = some oi) (hN:oi.dst=none) (hc:readyB md ops l l' i=true) (hd:i∈ds) (hw:Region.wanted oi (yielded ops a.tmps)=true)
  (hrun:W.cell? ⟨g,0,none⟩=some a0→W.cell? ⟨g,1,none⟩=some b0→W.frozen? ⟨g,0,none⟩=false→W.frozen? ⟨g,1,none⟩=false→(execOp a.eval oi).run P W=.ok .skip ((W.setCell ⟨g,0,none⟩ x).setCell ⟨g,1,none⟩ y))
  (h:∀W1,Kp w (bs.set n (g,#[x,y],t)) vs os W1→wpAnyLast P md ops Q S ds fuel l' a W1):wpAnyLast P md ops Q S ds (fuel+1) l a W:=by
 have c:=K.cell2 n hn
 refine last_ l' hi hN hc hd fun K' hK=>skip_ hw hN (hrun c.1 c.2 (K.fz n hn 0) (K.fz n hn 1)) ?_
 exact hK.out _ _ (h _ (K.put2 n x y hn))
theorem kone2 {i:Nat} {oi:Oper} {fuel:Nat} {l:Array Bool} (l':Array Bool) (n:Nat) (x y:Value) (K:Kp w bs vs os W) (hn:bs[n]? = some (g,#[a0,b0],t)) (hi:ops[i]? = some oi) (hN:oi.dst=none) (hc:readyB md ops l l' i=true) (hd:i∉ds) (hw:Region.wanted oi (yielded ops a.tmps)=true)
  (hrun:W.cell? ⟨g,0,none⟩=some a0→W.cell? ⟨g,1,none⟩=some b0→W.frozen? ⟨g,0,none⟩=false→W.frozen? ⟨g,1,none⟩=false→(execOp a.eval oi).run P W=.ok .skip ((W.setCell ⟨g,0,none⟩ x).setCell ⟨g,1,none⟩ y))
  (hS:∀W1,Kp w (bs.set n (g,#[x,y],t)) vs os W1→S W1) (h:∀W1,Kp w (bs.set n (g,#[x,y],t)) vs os W1→wpAnyLast P md ops Q S ds fuel l' a W1):wpAnyLast P md ops Q S ds (fuel+1) l a W:=by
 have c:=K.cell2 n hn
 refine one_ l' hi hN hc hd fun K' hK=>skip_ hw hN (hrun c.1 c.2 (K.fz n hn 0) (K.fz n hn 1)) ?_
 exact hK.out _ _ (hS _ (K.put2 n x y hn)) fun _=>h _ (K.put2 n x y hn)
end
section
variable {P:Program} {ops:Array Oper} {Q:Exit→Act→World→Prop} {rest:List Oper} {o:Oper} {a:Act} {w W:World} {bs:List Bx} {vs os:List KV} {g t:Nat} {a0 b0:Value} {md:Region.Mode} {S:World→Prop} {ds:List Nat}
theorem ks2 (n:Nat) (x y:Value) (K:Kp w bs vs os W) (hn:bs[n]? = some (g,#[a0,b0],t)) (h:∀W1,Kp w (bs.set n (g,#[x,y],t)) vs os W1→wpList P ops Q rest a W1) (hd:o.dst=none:=by rfl) (hgd:o.guard=none:=by rfl)
 (hrun:W.cell? ⟨g,0,none⟩=some a0→W.cell? ⟨g,1,none⟩=some b0→W.frozen? ⟨g,0,none⟩=false→W.frozen? ⟨g,1,none⟩=false→(execOp a.eval o).run P W=.ok .skip ((W.setCell ⟨g,0,none⟩ x).setCell ⟨g,1,none⟩ y):=by intro c0 c1 f0 f1;first|(go_simp;done)|(go_simp;rfl)):wpList P ops Q (o::rest) a W:=kst2 n x y K hn hrun h hd hgd
theorem ko2 {i:Nat} {oi:Oper} {fuel:Nat} {l:Array Bool} (l':Array Bool) (n:Nat) (x y:Value) (K:Kp w bs vs os W) (hn:bs[n]? = some (g,#[a0,b0],t)) (hi:ops[i]? = some oi) (hN:oi.dst=none) (hc:readyB md ops l l' i=true) (hd:i∉ds) (hw:Region.wanted oi (yielded ops a.tmps)=true)
 (hS:∀W1,Kp w (bs.set n (g,#[x,y],t)) vs os W1→S W1) (h:∀W1,Kp w (bs.set n (g,#[x,y],t)) vs os W1→wpAnyLast P md ops Q S ds fuel l' a W1) (hrun:W.cell? ⟨g,0,none⟩=some a0→W.cell? ⟨g,1,none⟩=some b0→W.frozen? ⟨g,0,none⟩=false→W.frozen? ⟨g,1,none⟩=false→(execOp a.eval oi).run P W=.ok .skip ((W.setCell ⟨g,0,none⟩ x).setCell ⟨g,1,none⟩ y):=by intro c0 c1 f0 f1;first|(go_simp;done)|(go_simp;rfl)):wpAnyLast P md ops Q S ds (fuel+1) l a W:=kone2 l' n x y K hn hi hN hc hd hw hrun hS h
theorem kbk {rest:List Oper} {o:Oper} (N:Tmp) (cs:Array Value) (t:TypeId) (K:Kp w bs vs os W) (h:∀g W1,Kp w (bs++[(g,cs,t)]) vs os W1→wpList P ops Q rest (a.put o.dst (.pointer (some ⟨g,0,none⟩))) W1)
 (hd:o.dst=some N:=by rfl) (hgd:o.guard=none:=by rfl) (hrun:(execOp a.eval o).run P W=.ok (.value (.pointer (some ⟨W.heap.size,0,none⟩))) (W.alloc (.cells cs t (0,0))):=by first|(go_simp;done)|(go_simp;rfl)):wpList P ops Q (o::rest) a W:=
 kbe N cs t (fun g hg w1 hx hb=>h g w1 (K.box hg hx hb)) hd hgd hrun
end
theorem kpstart {P:Program} {ops:Array Oper} {Q:Exit→Act→World→Prop} {S:World→Prop} {ds:List Nat} {id n:Nat} {a:Act} {w W W0:World} {bs:List Bx} {vs os:List KV} [u:UpO W0 W] (l:Array Bool) (hm:P.follows .mixedOrders=true) (hn:ops.size=n) (hl:Array.replicate n false=l)
  (K:Kp w bs vs os W0) (hS:∀W',Kp w bs vs os W'→S W') (h:∀W',Kp w bs vs os W'→S W'→wpAnyLast P .any ops Q S ds n l a W'):(Code.region id ops true).wp P Q a W:=
 start_ l hm hn hl (hS _ (K.up (below_drew u.below))) fun h'=>h _ (K.up (below_drew u.below)) h'
theorem klv:(∀l:List KV,[]++l=l)∧(∀(x:KV) (l m:List KV),x::l++m=x::(l++m)):=
 ⟨fun _=>rfl,fun _ _ _=>rfl⟩
end Go.Proofs.YtncomlmhagaajaaGreat.Mine
namespace Go.Proofs.YtncomlmhagaajaaGreat.PBo
open Go.RowKit Go.Proofs.YtncomlmhagaajaaGreatW.PrintWords Go.Proofs.YtncomlmhagaajaaGreatW.PrintLast Go.Proofs.YtncomlmhagaajaaGreatW.PrintMore
open Go.Proofs.YtncomlmhagaajaaGreat.Mine
attribute [local go_sem] max2_int min2_int max_two min_two max_three min_three max_four min_four
def whole_of.f (k:Nat) (a0_0:Bool) (l0_1:List Int):Option (List Int×Bool):=(whole_trimmed.f k l0_1).bind fun t150=>(if a0_0=true then((whole_amount_null.f t150).bind fun t153=>(some (t150,!t153))) else(some (t150,false)))
theorem whole_of.mono:∀a0 a1 k,LeO (whole_of.f k a0 a1) (whole_of.f (k+1) a0 a1):=by
 intro a0 a1 k
 unfold whole_of.f
 repeat' first
   | (with_reducible exact whole_trimmed.mono _ _)
   | (with_reducible exact LeO.refl _)
   | (with_reducible exact LeO.none _)
   | (with_reducible refine LeO.ite ?_ ?_)
   | (with_reducible refine LeO.bind ?_ (fun _=>?_))
   | exact whole_trimmed.mono _ _
   | exact LeO.none _
   | refine LeO.ite ?_ ?_
   | refine LeO.bind ?_ (fun _=>?_)
theorem whole_of.calls (k:Nat) (ad:Bool) (P0_1_:Nat→Prop) (ab:Option Addr) (ac:Nat) (aa:List Int) (r1:List Int) (r2:Bool) (w:World) (ae:Kd.V (Kd.int .u64) 48 w w.heap.size (fun k_=>P0_1_ k_) (.slice ab aa.length ac) aa) (h:whole_of.f k ad aa=some (r1,r2)) :
  Calls Tryz.prog 51 #[.agg #[.bool ad,.slice ab aa.length ac]] w fun e w'=>∃v0_:Value,e=.returned (.agg #[v0_,.bool r2])∧Kd.V (Kd.int .u64) 48 w' w.heap.size (fun k_=>(P0_1_ k_∨w.heap.size≤k_)) v0_ r1∧Below w.heap.size w w':=by
 have af:=Tryz.underlying43
 have ag:=Tryz.underlying90
 have K:=Kp.refl w
 replace K:=K.parV (Kd.V_mono (ok':=fun k=>P0_1_ k) ae (fun _ h=>h))
 clear ae
 try simp only[klv]at K
 rw[whole_of.f]at h
 replace h:=bindA h
 obtain⟨x5,A6,h⟩:=h
 by_cases c_0:ad=true
 ·subst c_0
  rw[if_pos rfl]at h
  replace h:=bindA h
  obtain⟨z13,A14,h⟩:=h
  simp only[Option.some.injEq,Prod.mk.injEq]at h
  obtain⟨rfl,rfl⟩:=h
  go_enter Tryz.func51,Tryz.ntmps51
  go_wp2_with (first|(refine gd 1 rfl ?_;refine kbk 1 #[.bool true,.slice ab aa.length ac] 43 K.u ?_;clear K;intro g1 W2 K)|(refine gd 2 rfl ?_;refine kbk 2 #[.slice none 0 0,.bool false] 90 K.u ?_;clear K;intro g3 W4 K;obtain⟨ua0,ub0⟩:=K.cell2 0 rfl)|(refine gd 6 rfl ?_;clear ua0 ub0;refine kgl (some 6) rfl rfl Tryz.func93 #[.slice ab aa.length ac] rfl ?_;refine(whole_trimmed.calls _ _ _ _ aa x5 _ (K.V 0 rfl) A6.out).mono ?_;rintro e W9 ⟨v7,rfl,ho8,hb⟩;refine⟨_,rfl,?_⟩;replace K:=K.u.add (fun k=>P0_1_ k) hb ho8 (fun _ h=>h);clear hb ho8;obtain⟨P10,c11,e12⟩:=K.slice 1 rfl;subst e12;obtain⟨ua0,ub0⟩:=K.cell2 0 rfl)|(refine gd 12 rfl ?_;clear ua0 ub0;refine gate_guard F0 ?_;refine kgl (some 12) rfl rfl Tryz.func94 #[.slice P10 x5.length c11] rfl ?_;refine(whole_amount_null.calls _ _ x5 z13 _ (K.C 1 rfl) (K.le 1 rfl) A14.out).mono ?_;rintro e W15 ⟨rfl,hb⟩;refine⟨_,rfl,?_⟩;replace K:=K.u.up hb.below;clear hb)|(refine gs 90 2 15 rfl ?_;refine ks2 1 (.slice P10 x5.length c11) (.bool !z13) K.u rfl ?_;clear K;intro W16 K;simp only[kls,klv]at K))
  refine bodyPost_ret (results_single rfl (.cell g3 90 #[.slice P10 x5.length c11,.bool !z13] (0,0) _ rfl (K.u.heap 1 rfl) Tryz.underlying90 rfl Y0 .nil)) rfl ?_
  exact⟨_,rfl,K.u.hand 1 rfl (fun k_ h=>h.elim (fun h=>.inl h) .inr),K.u.below⟩
 replace c_0:=Bool.eq_false_iff.mpr c_0
 subst c_0
 rw[if_neg X0]at h
 simp only[Option.some.injEq,Prod.mk.injEq]at h
 obtain⟨rfl,rfl⟩:=h
 go_enter Tryz.func51,Tryz.ntmps51
 go_wp2_with (first|(refine gd 1 rfl ?_;refine kbk 1 #[.bool false,.slice ab aa.length ac] 43 K.u ?_;clear K;intro g1 W2 K)|(refine gd 2 rfl ?_;refine kbk 2 #[.slice none 0 0,.bool false] 90 K.u ?_;clear K;intro g3 W4 K;obtain⟨ua0,ub0⟩:=K.cell2 0 rfl)|(refine gd 6 rfl ?_;clear ua0 ub0;refine kgl (some 6) rfl rfl Tryz.func93 #[.slice ab aa.length ac] rfl ?_;refine(whole_trimmed.calls _ _ _ _ aa x5 _ (K.V 0 rfl) A6.out).mono ?_;rintro e W9 ⟨v7,rfl,ho8,hb⟩;refine⟨_,rfl,?_⟩;replace K:=K.u.add (fun k=>P0_1_ k) hb ho8 (fun _ h=>h);clear hb ho8;obtain⟨P10,c11,e12⟩:=K.slice 1 rfl;subst e12;obtain⟨ua0,ub0⟩:=K.cell2 0 rfl)|(refine gs 90 2 15 rfl ?_;clear ua0 ub0;refine ks2 1 (.slice P10 x5.length c11) (.bool false) K.u rfl ?_;clear K;intro W13 K;simp only[kls,klv]at K))
 refine bodyPost_ret (results_single rfl (.cell g3 90 #[.slice P10 x5.length c11,.bool false] (0,0) _ rfl (K.u.heap 1 rfl) Tryz.underlying90 rfl Y0 .nil)) rfl ?_
 exact⟨_,rfl,K.u.hand 1 rfl (fun k_ h=>h.elim (fun h=>.inl h) .inr),K.u.below⟩
def whole_amount_cmp.l0:Nat→List Int→List Int→Int→Option (Int)
 | 0,_,_,_=>none
 | k+1,x0,x1,x5=>if x5≥0 then(if 0≤x5 then(if x5<(x0.length:Int) then(if x5<(x1.length:Int) then(if(rd x0 x5)=(rd x1 x5) then(whole_amount_cmp.l0 k x0 x1 (wrap64 (x5-1))) else(if(rd x0 x5)<(rd x1 x5) then(some (-1)) else(some 1))) else(none)) else(none)) else(none)) else(some 0)
def whole_amount_cmp.f (k:Nat) (l0:List Int) (l1:List Int):Option (Int):=if(l0.length:Int)=(l1.length:Int) then(whole_amount_cmp.l0 k l0 l1 (wrap64 ((l0.length:Int)-1))) else(if(l0.length:Int)<(l1.length:Int) then(some (-1)) else(some 1))
theorem whole_amount_cmp.mono_l:∀k,(∀y0 y1 y2,LeO (whole_amount_cmp.l0 k y0 y1 y2) (whole_amount_cmp.l0 (k+1) y0 y1 y2))
 | 0=>fun _ _ _ r h=>by simp[whole_amount_cmp.l0]at h
 | k+1=>by
  have ih0:=whole_amount_cmp.mono_l k
  intro y0 y1 y2
  unfold whole_amount_cmp.l0
  repeat' first
  | (with_reducible exact ih0 _ _ _)
  | (with_reducible exact LeO.refl _)
  | (with_reducible exact LeO.none _)
  | (with_reducible refine LeO.ite ?_ ?_)
  | (with_reducible refine LeO.bind ?_ (fun _=>?_))
  | exact ih0 _ _ _
  | exact LeO.none _
  | refine LeO.ite ?_ ?_
  | refine LeO.bind ?_ (fun _=>?_)
theorem whole_amount_cmp.mono:∀a0 a1 k,LeO (whole_amount_cmp.f k a0 a1) (whole_amount_cmp.f (k+1) a0 a1):=by
 intro a0 a1 k
 have ih0:=whole_amount_cmp.mono_l k
 unfold whole_amount_cmp.f
 repeat' first
   | (with_reducible exact ih0 _ _ _)
   | (with_reducible exact LeO.refl _)
   | (with_reducible exact LeO.none _)
   | (with_reducible refine LeO.ite ?_ ?_)
   | (with_reducible refine LeO.bind ?_ (fun _=>?_))
   | exact ih0 _ _ _
   | exact LeO.none _
   | refine LeO.ite ?_ ?_
   | refine LeO.bind ?_ (fun _=>?_)
theorem whole_amount_cmp.calls (k:Nat) (A0:Option Addr) (c0:Nat) (l0:List Int) (A1:Option Addr) (c1:Nat) (l1:List Int) (r:Int) (w:World) (hr0:Kd.C (Kd.int .u64) w A0 l0.length l0) (hc0:l0.length≤c0) (hr1:Kd.C (Kd.int .u64) w A1 l1.length l1) (hc1:l1.length≤c1) (h:whole_amount_cmp.f k l0 l1=some r) :
  Calls Tryz.prog 95 #[.slice A0 l0.length c0,.slice A1 l1.length c1] w fun e w'=>e=.returned (.int .i64 r)∧Drawn0 w w':=by
 have HR0:=Aside0.mk hr0
 have HC0:=Aside0.mk hc0
 clear hr0 hc0
 have HR1:=Aside0.mk hr1
 have HC1:=Aside0.mk hc1
 clear hr1 hc1
 have H:(if(l0.length:Int)=(l1.length:Int) then(whole_amount_cmp.l0 k l0 l1 (wrap64 ((l0.length:Int)-1))) else(if(l0.length:Int)<(l1.length:Int) then(some (-1)) else(some 1)))=some r:=h
 clear h
 by_cases c3:(l0.length:Int)=(l1.length:Int)
 ·rw [if_pos c3]at H
  have ax:((l0.length:Int)==(l1.length:Int))=true:=beq_iff_eq.mpr c3
  have ay:((l0.length:Int) != (l1.length:Int))=false:=bne_eq_false_iff_eq.mpr c3
  have az:(l0.length==l1.length)=true:=by first|simpa using c3|(simp at c3 ⊢;omega)
  clear c3
  have H':=Aside0.mk H
  clear H
  go_enter Tryz.func95,Tryz.ntmps95
  go_wp2
  repeat (go_quiet (fail);try go_wp2)
  go_loopg [5] k (fun kq v5 w'=>∃(aa:Int),v5=.int .i64 aa∧Aside0 (whole_amount_cmp.l0 kq l0 l1 aa=some r)∧Aside0 (kq≤k)∧Drawn0 w w')
  case atStart=>exact⟨(wrap64 ((l0.length:Int)-1)),J0,H',⟨Nat.le_refl _⟩,Y1⟩
  case round=>
   clear H'
   try clear c1
   try clear p2
   try clear c3
   try clear ax
   try clear ay
   try clear az
   obtain⟨aa,rfl,HA,HK1,⟨m1,rfl⟩⟩:=hrel
   cases gk with
   | zero=>exact absurd HA.out (by simp[whole_amount_cmp.l0])
   | succ k1=>
    have H:=HA.out
    clear HA
    simp only[whole_amount_cmp.l0]at H
    by_cases c4:aa≥0
    ·rw [if_pos c4]at H
     have aC:decide (0≤aa)=true:=decide_eq_true c4
     clear c4
     by_cases c5:0≤aa
     ·rw [if_pos c5]at H
      have aG:decide (0≤aa)=true:=decide_eq_true c5
      clear c5
      by_cases c6:aa<(l0.length:Int)
      ·rw[if_pos c6]at H
       have aH:decide (aa<(l0.length:Int))=true:=decide_eq_true c6
       clear c6
       by_cases c7:aa<(l1.length:Int)
       ·rw[if_pos c7]at H
        have aI:decide (aa<(l1.length:Int))=true:=decide_eq_true c7
        clear c7
        by_cases c8:(rd l0 aa)=(rd l1 aa)
        ·rw[if_pos c8]at H
         have aD:((rd l0 aa)==(rd l1 aa))=true:=beq_iff_eq.mpr c8
         have aE:((rd l0 aa) != (rd l1 aa))=false:=bne_eq_false_iff_eq.mpr c8
         clear c8
         have H':=Aside0.mk H
         clear H
         have ab:0≤(aa:Int):=of_decide_eq_true ‹_›
         have ac:aa<(l0.length:Int):=of_decide_eq_true ‹_›
         obtain⟨aj,al,an⟩:=Kd.at_int HR0.out aa ab ac
         cases al
         replace ab:=eq_true ab
         replace ac:=eq_true ac
         have ad:0≤(aa:Int):=of_decide_eq_true ‹_›
         have ae:aa<(l1.length:Int):=of_decide_eq_true ‹_›
         obtain⟨ak,am,ao⟩:=Kd.at_int HR1.out aa ad ae
         cases am
         replace ad:=eq_true ad
         replace ae:=eq_true ae
         go_wp2
         repeat (go_quiet (fail);try go_wp2)
         go_roundg k1
         case measure=>have:=HK1.out;omega
         case rel=>exact⟨(wrap64 (aa-1)),J0,H',⟨X2⟩,Y1⟩
        rw[if_neg c8]at H
        have aD:((rd l0 aa)==(rd l1 aa))=false:=beq_eq_false_iff_ne.mpr c8
        have aE:((rd l0 aa) != (rd l1 aa))=true:=bne_iff_ne.mpr c8
        by_cases c9:(rd l0 aa)<(rd l1 aa)
        ·rw[if_pos c9]at H
         have aF:decide ((rd l0 aa)<(rd l1 aa))=true:=decide_eq_true c9
         clear c9
         obtain rfl:=Option.some.inj H
         have ab:0≤(aa:Int):=of_decide_eq_true ‹_›
         have ac:aa<(l0.length:Int):=of_decide_eq_true ‹_›
         obtain⟨aj,al,an⟩:=Kd.at_int HR0.out aa ab ac
         cases al
         replace ab:=eq_true ab
         replace ac:=eq_true ac
         have ad:0≤(aa:Int):=of_decide_eq_true ‹_›
         have ae:aa<(l1.length:Int):=of_decide_eq_true ‹_›
         obtain⟨ak,am,ao⟩:=Kd.at_int HR1.out aa ad ae
         cases am
         replace ad:=eq_true ad
         replace ae:=eq_true ae
         have af:0≤(aa:Int):=of_decide_eq_true ‹_›
         have ag:aa<(l0.length:Int):=of_decide_eq_true ‹_›
         obtain⟨ap,ar,av⟩:=Kd.at_int HR0.out aa af ag
         obtain rfl:aj=ap:=(by injection ar)
         replace af:=eq_true af
         replace ag:=eq_true ag
         have ah:0≤(aa:Int):=of_decide_eq_true ‹_›
         have ai:aa<(l1.length:Int):=of_decide_eq_true ‹_›
         obtain⟨aq,au,aw⟩:=Kd.at_int HR1.out aa ah ai
         obtain rfl:ak=aq:=(by injection au)
         replace ah:=eq_true ah
         replace ai:=eq_true ai
         go_wp2
         repeat (go_quiet (fail);try go_wp2)
         go_ret
         exact⟨J0,Y1⟩
        rw[if_neg c9]at H
        have aF:decide ((rd l0 aa)<(rd l1 aa))=false:=decide_eq_false c9
        clear c9
        obtain rfl:=Option.some.inj H
        have ab:0≤(aa:Int):=of_decide_eq_true ‹_›
        have ac:aa<(l0.length:Int):=of_decide_eq_true ‹_›
        obtain⟨aj,al,an⟩:=Kd.at_int HR0.out aa ab ac
        cases al
        replace ab:=eq_true ab
        replace ac:=eq_true ac
        have ad:0≤(aa:Int):=of_decide_eq_true ‹_›
        have ae:aa<(l1.length:Int):=of_decide_eq_true ‹_›
        obtain⟨ak,am,ao⟩:=Kd.at_int HR1.out aa ad ae
        cases am
        replace ad:=eq_true ad
        replace ae:=eq_true ae
        have af:0≤(aa:Int):=of_decide_eq_true ‹_›
        have ag:aa<(l0.length:Int):=of_decide_eq_true ‹_›
        obtain⟨ap,ar,av⟩:=Kd.at_int HR0.out aa af ag
        obtain rfl:aj=ap:=(by injection ar)
        replace af:=eq_true af
        replace ag:=eq_true ag
        have ah:0≤(aa:Int):=of_decide_eq_true ‹_›
        have ai:aa<(l1.length:Int):=of_decide_eq_true ‹_›
        obtain⟨aq,au,aw⟩:=Kd.at_int HR1.out aa ah ai
        obtain rfl:ak=aq:=(by injection au)
        replace ah:=eq_true ah
        replace ai:=eq_true ai
        go_wp2
        repeat (go_quiet (fail);try go_wp2)
        go_ret
        exact⟨J0,Y1⟩
       rw[if_neg c7]at H
       exact absurd H Z1
      rw[if_neg c6]at H
      exact absurd H Z1
     rw[if_neg c5]at H
     exact absurd H Z1
    rw[if_neg c4]at H
    have aC:decide (0≤aa)=false:=decide_eq_false c4
    clear c4
    obtain rfl:=Option.some.inj H
    go_wp2
    repeat (go_quiet (fail);try go_wp2)
    go_ret
    exact⟨J0,Y1⟩
 rw[if_neg c3]at H
 have ax:((l0.length:Int)==(l1.length:Int))=false:=beq_eq_false_iff_ne.mpr c3
 have ay:((l0.length:Int) != (l1.length:Int))=true:=bne_iff_ne.mpr c3
 have az:(l0.length==l1.length)=false:=by first|simpa using c3|(simp at c3 ⊢;omega)
 by_cases c10:(l0.length:Int)<(l1.length:Int)
 ·rw[if_pos c10]at H
  have aA:decide ((l0.length:Int)<(l1.length:Int))=true:=decide_eq_true c10
  have aB:decide (l0.length<l1.length)=true:=decide_eq_true (Int.ofNat_lt.mp c10)
  clear c10
  obtain rfl:=Option.some.inj H
  go_enter Tryz.func95,Tryz.ntmps95
  go_wp2
  repeat (go_quiet (fail);try go_wp2)
  go_ret
  exact⟨J0,Y1⟩
 rw[if_neg c10]at H
 have aA:decide ((l0.length:Int)<(l1.length:Int))=false:=decide_eq_false c10
 have aB:decide (l0.length<l1.length)=false:=decide_eq_false (fun h=>c10 (Int.ofNat_lt.mpr h))
 clear c10
 obtain rfl:=Option.some.inj H
 go_enter Tryz.func95,Tryz.ntmps95
 go_wp2
 repeat (go_quiet (fail);try go_wp2)
 go_ret
 exact⟨J0,Y1⟩
mutual
def whole_number_cmp.j0:Nat→Bool→List Int→Bool→List Int→Bool→Option (Int)
 | 0,_,_,_,_,_=>none
 | k+1,x5,x304000,x304001,x305000,x305001=>if x5=true then(some (-1)) else(if x304001=true then(whole_number_cmp.j1 k false x304000 x304001 x305000 x305001) else(whole_number_cmp.j1 k x305001 x304000 x304001 x305000 x305001))
def whole_number_cmp.j1:Nat→Bool→List Int→Bool→List Int→Bool→Option (Int)
 | 0,_,_,_,_,_=>none
 | k+1,x13,x304000,x304001,x305000,x305001=>if x13=true then(some 1) else(if x304001=true then((whole_amount_cmp.f k x305000 x304000).bind fun t305=>(some t305)) else((whole_amount_cmp.f k x304000 x305000).bind fun t306=>(some t306)))
end
def whole_number_cmp.f (k:Nat) (l0_0:List Int) (a0_1:Bool) (l1_0:List Int) (a1_1:Bool):Option (Int):=if a0_1=true then(whole_number_cmp.j0 k (!a1_1) l0_0 a0_1 l1_0 a1_1) else(whole_number_cmp.j0 k false l0_0 a0_1 l1_0 a1_1)
theorem whole_number_cmp.mono_l:∀k,(∀y0 y1 y2 y3 y4,LeO (whole_number_cmp.j0 k y0 y1 y2 y3 y4) (whole_number_cmp.j0 (k+1) y0 y1 y2 y3 y4))∧(∀y0 y1 y2 y3 y4,LeO (whole_number_cmp.j1 k y0 y1 y2 y3 y4) (whole_number_cmp.j1 (k+1) y0 y1 y2 y3 y4))
 | 0=>⟨fun _ _ _ _ _ r h=>by simp[whole_number_cmp.j0]at h,fun _ _ _ _ _ r h=>by simp[whole_number_cmp.j1]at h⟩
 | k+1=>by
  obtain⟨ih0,ih1⟩:=whole_number_cmp.mono_l k
  refine⟨?_,?_⟩
  ·intro y0 y1 y2 y3 y4
   unfold whole_number_cmp.j0
   repeat' first
   | (with_reducible exact ih0 _ _ _ _ _)
   | (with_reducible exact ih1 _ _ _ _ _)
   | (with_reducible exact whole_amount_cmp.mono _ _ _)
   | (with_reducible exact LeO.refl _)
   | (with_reducible exact LeO.none _)
   | (with_reducible refine LeO.ite ?_ ?_)
   | (with_reducible refine LeO.bind ?_ (fun _=>?_))
   | exact ih0 _ _ _ _ _
   | exact ih1 _ _ _ _ _
   | exact whole_amount_cmp.mono _ _ _
   | exact LeO.none _
   | refine LeO.ite ?_ ?_
   | refine LeO.bind ?_ (fun _=>?_)
  intro y0 y1 y2 y3 y4
  unfold whole_number_cmp.j1
  repeat' first
  | (with_reducible exact ih0 _ _ _ _ _)
  | (with_reducible exact ih1 _ _ _ _ _)
  | (with_reducible exact whole_amount_cmp.mono _ _ _)
  | (with_reducible exact LeO.refl _)
  | (with_reducible exact LeO.none _)
  | (with_reducible refine LeO.ite ?_ ?_)
  | (with_reducible refine LeO.bind ?_ (fun _=>?_))
  | exact ih0 _ _ _ _ _
  | exact ih1 _ _ _ _ _
  | exact whole_amount_cmp.mono _ _ _
  | exact LeO.none _
  | refine LeO.ite ?_ ?_
  | refine LeO.bind ?_ (fun _=>?_)
theorem whole_number_cmp.mono:∀a0 a1 a2 a3 k,LeO (whole_number_cmp.f k a0 a1 a2 a3) (whole_number_cmp.f (k+1) a0 a1 a2 a3):=by
 intro a0 a1 a2 a3 k
 obtain⟨ih0,ih1⟩:=whole_number_cmp.mono_l k
 unfold whole_number_cmp.f
 repeat' first
   | (with_reducible exact ih0 _ _ _ _ _)
   | (with_reducible exact ih1 _ _ _ _ _)
   | (with_reducible exact whole_amount_cmp.mono _ _ _)
   | (with_reducible exact LeO.refl _)
   | (with_reducible exact LeO.none _)
   | (with_reducible refine LeO.ite ?_ ?_)
   | (with_reducible refine LeO.bind ?_ (fun _=>?_))
   | exact ih0 _ _ _ _ _
   | exact ih1 _ _ _ _ _
   | exact whole_amount_cmp.mono _ _ _
   | exact LeO.none _
   | refine LeO.ite ?_ ?_
   | refine LeO.bind ?_ (fun _=>?_)
theorem whole_number_cmp.calls (k:Nat) (ac:Option Addr) (ad:Nat) (aa:List Int) (ah:Bool) (ae:Option Addr) (af:Nat) (ab:List Int) (ag:Bool) (r:Int) (w:World) (ai:Kd.C (Kd.int .u64) w ac aa.length aa) (aj:aa.length≤ad) (ak:Kd.C (Kd.int .u64) w ae ab.length ab) (al:ab.length≤af) (h:whole_number_cmp.f k aa ah ab ag=some r) :
  Calls Tryz.prog 52 #[.agg #[.slice ac aa.length ad,.bool ah],.agg #[.slice ae ab.length af,.bool ag]] w fun e w'=>e=.returned (.int .i64 r)∧Below w.heap.size w w':=by
 have am:=Tryz.underlying90
 have K:=Kp.refl w
 replace K:=K.parV (Kd.V_mono (ok':=fun _=>True) (Kd.V_mk (e:=48) (base:=0) aj (Kd.C_F (Kd.heap_int .u64) ai)) (fun _ h=>trivial))
 clear ai aj
 replace K:=K.parV (Kd.V_mono (ok':=fun _=>True) (Kd.V_mk (e:=48) (base:=0) al (Kd.C_F (Kd.heap_int .u64) ak)) (fun _ h=>trivial))
 clear ak al
 try simp only[klv]at K
 rw[whole_number_cmp.f]at h
 by_cases c_0:ah=true
 ·subst c_0
  rw[if_pos rfl]at h
  obtain⟨k,rfl⟩:∃j,k=j+1:=by
   cases k with
   | zero=>simp[whole_number_cmp.j0]at h
   | succ k=>exact⟨k,rfl⟩
  rw[whole_number_cmp.j0]at h
  by_cases c_1:(!ag)=true
  ·rw[if_pos c_1]at h
   simp only[Option.some.injEq]at h
   subst h
   go_enter Tryz.func52,Tryz.ntmps52
   go_wp2_with (first|(refine gd 2 rfl ?_;refine kbk 2 #[.slice ac aa.length ad,.bool true] 90 K.u ?_;clear K;intro g1 W2 K)|(refine gd 3 rfl ?_;refine kbk 3 #[.slice ae ab.length af,.bool ag] 90 K.u ?_;clear K;intro g3 W4 K;obtain⟨ua0,ub0⟩:=K.cell2 0 rfl;obtain⟨ua1,ub1⟩:=K.cell2 1 rfl))
   go_ret
   exact⟨rfl,K.u.below⟩
  rw[if_neg c_1]at h
  replace c_1:=Bool.eq_false_iff.mpr c_1
  rw[if_pos rfl]at h
  obtain⟨k,rfl⟩:∃j,k=j+1:=by
   cases k with
   | zero=>simp[whole_number_cmp.j1]at h
   | succ k=>exact⟨k,rfl⟩
  rw[whole_number_cmp.j1]at h
  rw[if_neg X0]at h
  rw[if_pos rfl]at h
  replace h:=bindA h
  obtain⟨n5,A6,h⟩:=h
  simp only[Option.some.injEq]at h
  subst h
  go_enter Tryz.func52,Tryz.ntmps52
  go_wp2_with (first|(refine gd 2 rfl ?_;refine kbk 2 #[.slice ac aa.length ad,.bool true] 90 K.u ?_;clear K;intro g1 W2 K)|(refine gd 3 rfl ?_;refine kbk 3 #[.slice ae ab.length af,.bool ag] 90 K.u ?_;clear K;intro g3 W4 K;obtain⟨ua0,ub0⟩:=K.cell2 0 rfl;obtain⟨ua1,ub1⟩:=K.cell2 1 rfl)|(refine gd 28 rfl ?_;clear ua0 ub0 ua1 ub1;refine kgl (some 28) rfl rfl Tryz.func95 #[.slice ae ab.length af,.slice ac aa.length ad] rfl ?_;refine(whole_amount_cmp.calls _ _ _ ab _ _ aa n5 _ (K.C 1 rfl) (K.le 1 rfl) (K.C 0 rfl) (K.le 0 rfl) A6.out).mono ?_;rintro e W7 ⟨rfl,hb⟩;refine⟨_,rfl,?_⟩;replace K:=K.u.up hb.below;clear hb))
  go_ret
  exact⟨rfl,K.u.below⟩
 replace c_0:=Bool.eq_false_iff.mpr c_0
 subst c_0
 rw[if_neg X0]at h
 obtain⟨k,rfl⟩:∃j,k=j+1:=by
  cases k with
  | zero=>simp[whole_number_cmp.j0]at h
  | succ k=>exact⟨k,rfl⟩
 rw[whole_number_cmp.j0]at h
 rw[if_neg X0]at h
 rw[if_neg X0]at h
 obtain⟨k,rfl⟩:∃j,k=j+1:=by
  cases k with
  | zero=>simp[whole_number_cmp.j1]at h
  | succ k=>exact⟨k,rfl⟩
 rw[whole_number_cmp.j1]at h
 by_cases c_2:ag=true
 ·subst c_2
  rw[if_pos rfl]at h
  simp only[Option.some.injEq]at h
  subst h
  go_enter Tryz.func52,Tryz.ntmps52
  go_wp2_with (first|(refine gd 2 rfl ?_;refine kbk 2 #[.slice ac aa.length ad,.bool false] 90 K.u ?_;clear K;intro g1 W2 K)|(refine gd 3 rfl ?_;refine kbk 3 #[.slice ae ab.length af,.bool true] 90 K.u ?_;clear K;intro g3 W4 K;obtain⟨ua0,ub0⟩:=K.cell2 0 rfl;obtain⟨ua1,ub1⟩:=K.cell2 1 rfl))
  go_ret
  exact⟨rfl,K.u.below⟩
 replace c_2:=Bool.eq_false_iff.mpr c_2
 subst c_2
 rw[if_neg X0]at h
 rw[if_neg X0]at h
 replace h:=bindA h
 obtain⟨n5,A6,h⟩:=h
 simp only[Option.some.injEq]at h
 subst h
 go_enter Tryz.func52,Tryz.ntmps52
 go_wp2_with (first|(refine gd 2 rfl ?_;refine kbk 2 #[.slice ac aa.length ad,.bool false] 90 K.u ?_;clear K;intro g1 W2 K)|(refine gd 3 rfl ?_;refine kbk 3 #[.slice ae ab.length af,.bool false] 90 K.u ?_;clear K;intro g3 W4 K;obtain⟨ua0,ub0⟩:=K.cell2 0 rfl;obtain⟨ua1,ub1⟩:=K.cell2 1 rfl)|(refine gd 33 rfl ?_;clear ua0 ub0 ua1 ub1;refine kgl (some 33) rfl rfl Tryz.func95 #[.slice ac aa.length ad,.slice ae ab.length af] rfl ?_;refine(whole_amount_cmp.calls _ _ _ aa _ _ ab n5 _ (K.C 0 rfl) (K.le 0 rfl) (K.C 1 rfl) (K.le 1 rfl) A6.out).mono ?_;rintro e W7 ⟨rfl,hb⟩;refine⟨_,rfl,?_⟩;replace K:=K.u.up hb.below;clear hb))
 go_ret
 exact⟨rfl,K.u.below⟩
def whole_Cmp.f (k:Nat) (a0_0:Bool) (l0_1:List Int) (a1_0:Bool) (l1_1:List Int):Option (Int):=(whole_of.f k a0_0 l0_1).bind fun bt750=>((whole_of.f k a1_0 l1_1).bind fun bt754=>((whole_number_cmp.f k bt750.1 bt750.2 bt754.1 bt754.2).bind fun t758=>(some t758)))
theorem whole_Cmp.mono:∀a0 a1 a2 a3 k,LeO (whole_Cmp.f k a0 a1 a2 a3) (whole_Cmp.f (k+1) a0 a1 a2 a3):=by
 intro a0 a1 a2 a3 k
 unfold whole_Cmp.f
 repeat' first
   | (with_reducible exact whole_number_cmp.mono _ _ _ _ _)
   | (with_reducible exact whole_of.mono _ _ _)
   | (with_reducible exact LeO.refl _)
   | (with_reducible exact LeO.none _)
   | (with_reducible refine LeO.ite ?_ ?_)
   | (with_reducible refine LeO.bind ?_ (fun _=>?_))
   | exact whole_number_cmp.mono _ _ _ _ _
   | exact whole_of.mono _ _ _
   | exact LeO.none _
   | refine LeO.ite ?_ ?_
   | refine LeO.bind ?_ (fun _=>?_)
theorem whole_Cmp.calls (k:Nat) (ac:Bool) (ae:Option Addr) (af:Nat) (aa:List Int) (ad:Bool) (ag:Option Addr) (ah:Nat) (ab:List Int) (r:Int) (w:World) (ai:Kd.C (Kd.int .u64) w ae aa.length aa) (aj:aa.length≤af) (ak:Kd.C (Kd.int .u64) w ag ab.length ab) (al:ab.length≤ah) (h:whole_Cmp.f k ac aa ad ab=some r) :
  Calls Tryz.prog 28 #[.agg #[.bool ac,.slice ae aa.length af],.agg #[.bool ad,.slice ag ab.length ah]] w fun e w'=>e=.returned (.int .i64 r)∧Below w.heap.size w w':=by
 have ao:=Tryz.underlying43
 have K:=Kp.refl w
 replace K:=K.parV (Kd.V_mono (ok':=fun _=>True) (Kd.V_mk (e:=48) (base:=0) aj (Kd.C_F (Kd.heap_int .u64) ai)) (fun _ h=>trivial))
 clear ai aj
 replace K:=K.parV (Kd.V_mono (ok':=fun _=>True) (Kd.V_mk (e:=48) (base:=0) al (Kd.C_F (Kd.heap_int .u64) ak)) (fun _ h=>trivial))
 clear ak al
 try simp only[klv]at K
 rw[whole_Cmp.f]at h
 go_enter Tryz.func28,Tryz.ntmps28
 go_wp2_with (first|(refine gd 2 rfl ?_;refine kbk 2 #[.bool ac,.slice ae aa.length af] 43 K.u ?_;clear K;intro g1 W2 K)|(refine gd 3 rfl ?_;refine kbk 3 #[.bool ad,.slice ag ab.length ah] 43 K.u ?_;clear K;intro g3 W4 K))
 replace h:=bindA h
 obtain⟨⟨x5,z6⟩,A7,h⟩:=h
 dsimp only at h
 replace h:=bindA h
 obtain⟨⟨x8,z9⟩,A10,h⟩:=h
 dsimp only at h
 replace h:=bindA h
 obtain⟨n11,A12,h⟩:=h
 obtain⟨Bs,Vs,Os,hBs,hVs,hOs,K⟩:=K.abs
 have HS:Aside0 (∀l m o W,Kp w (Bs++l) m o W→W.cell? ⟨g1,0,none⟩=some (.bool ac)∧W.cell? ⟨g1,1,none⟩=some (.slice ae aa.length af)∧W.cell? ⟨g3,0,none⟩=some (.bool ad)∧W.cell? ⟨g3,1,none⟩=some (.slice ag ab.length ah)):=⟨fun l m o W K=>by rw[hBs.out]at K;exact⟨K.cell 0 rfl 0 rfl,K.cell 0 rfl 1 rfl,K.cell 1 rfl 0 rfl,K.cell 1 rfl 1 rfl⟩⟩
 refine kpstart (n:=6) (ds:=[]) (S:=fun W=>W.cell? ⟨g1,0,none⟩=some (.bool ac)∧W.cell? ⟨g1,1,none⟩=some (.slice ae aa.length af)∧W.cell? ⟨g3,0,none⟩=some (.bool ad)∧W.cell? ⟨g3,1,none⟩=some (.slice ag ab.length ah)) (bm_ 6 0) Y0 rfl rfl K (HS.out [] _ _) (fun W15 K hH=>?_)
 refine tk_ 0 5 ?_ (bm_ 6 1) rfl rfl Y0 (fun _ _ _ h=>h) F0 ?_ hH ?_ ?_ ?_
 rotate_left
 ·rintro w' ⟨s0,s1,s2,s3⟩
  go_simp
  with_reducible rfl
 rotate_left
 ·simp only[Act.put,kss,i64_w,i32_w]
  rfl
 refine tk_ 2 7 ?_ (bm_ 6 5) rfl rfl Y0 (fun _ _ _ h=>h) F0 ?_ hH ?_ ?_ ?_
 rotate_left
 ·rintro w' ⟨s0,s1,s2,s3⟩
  go_simp
  with_reducible rfl
 rotate_left
 ·simp only[Act.put,kss,i64_w,i32_w]
  rfl
 refine one_ (i:=1) (N:=some 6) (bm_ 6 7) rfl rfl Y0 X0 (fun Kc hK=>?_)
 refine kgo Tryz.func51 #[.agg #[.bool ac,.slice ae aa.length af]] F0 rfl rfl ?_
 refine(whole_of.calls _ ac _ _ _ aa x5 z6 _ (K.V 0 (hv hVs rfl)) A7.out).mono ?_
 rintro e W' ⟨v13,rfl,am,hb⟩
 replace K:=K.addI 0 (fun _=>True) hb am (fun _ h=>h.t)
 clear hb am
 refine⟨_,rfl,hK.out _ _ (HS.out _ _ _ _ K) fun hH=>?_⟩
 clear hK Kc
 refine norm_ (a':=?_) ?_ ?_
 rotate_left
 ·show Act.put _ (some 6) _=_
  simp only[Act.put,kss,i64_w,i32_w]
  rfl
 refine one_ (i:=3) (N:=some 8) (bm_ 6 15) rfl rfl Y0 X0 (fun Kc hK=>?_)
 refine kgo Tryz.func51 #[.agg #[.bool ad,.slice ag ab.length ah]] F0 rfl rfl ?_
 refine(whole_of.calls _ ad _ _ _ ab x8 z9 _ (K.V 1 (hv hVs rfl)) A10.out).mono ?_
 rintro e W' ⟨v14,rfl,an,hb⟩
 replace K:=K.addI 1 (fun _=>True) hb an (fun _ h=>h.t)
 clear hb an
 refine⟨_,rfl,hK.out _ _ (HS.out _ _ _ _ K) fun hH=>?_⟩
 clear hK Kc
 refine norm_ (a':=?_) ?_ ?_
 rotate_left
 ·show Act.put _ (some 8) _=_
  simp only[Act.put,kss,i64_w,i32_w]
  rfl
 refine one_ (i:=4) (N:=some 9) (bm_ 6 31) rfl rfl Y0 X0 (fun Kc hK=>?_)
 obtain⟨P18,c19,e20⟩:=K.slice 2 (hv hVs rfl)
 subst e20
 obtain⟨P21,c22,e23⟩:=K.slice 3 (hv hVs rfl)
 subst e23
 refine kgo Tryz.func52 #[.agg #[.slice P18 x5.length c19,.bool z6],.agg #[.slice P21 x8.length c22,.bool z9]] F0 rfl rfl ?_
 refine(whole_number_cmp.calls _ _ _ x5 z6 _ _ x8 z9 n11 _ (K.C 2 (hv hVs rfl)) (K.le 2 (hv hVs rfl)) (K.C 3 (hv hVs rfl)) (K.le 3 (hv hVs rfl)) A12.out).mono ?_
 rintro e W' ⟨rfl,hb⟩
 replace K:=K.up hb
 clear hb
 refine⟨_,rfl,hK.out _ _ (HS.out _ _ _ _ K) fun hH=>?_⟩
 refine norm_ (a':=?_) ?_ ?_
 rotate_left
 ·show Act.put _ (some 9) _=_
  simp only[Act.put,kss,i64_w,i32_w]
  rfl
 refine pu_ 5 4 ?_ (bm_ 6 63) rfl rfl Y0 (fun _ _ _ h=>h) F0 ?_ ?_ ?_ ?_
 rotate_left
 ·intro w'
  go_simp
  with_reducible rfl
 rotate_left
 ·simp only[Act.put,kss,i64_w,i32_w]
  rfl
 clear hK Kc
 rw[hBs.out,hVs.out,hOs.out]at K
 simp only[kls,klv]at K
 clear hBs hVs hOs HS hH
 refine done_ Y0 ?_
 simp only[Option.some.injEq]at h
 subst h
 go_wp2
 go_ret
 exact⟨rfl,K.u.below⟩
def whole_signed.f (l0:List Int) (a1:Bool):Option (List Int×Bool):=if a1=true then((whole_amount_null.f l0).bind fun t113=>(some (l0,!t113))) else(some (l0,false))
theorem whole_signed.calls (P0_:Nat→Prop) (A0:Option Addr) (c0:Nat) (l0:List Int) (a1:Bool) (r1:List Int) (r2:Bool) (w:World) (hs0:Kd.V (Kd.int .u64) 48 w w.heap.size (fun k_=>P0_ k_) (.slice A0 l0.length c0) l0) (h:whole_signed.f l0 a1=some (r1,r2)) :
  Calls Tryz.prog 144 #[.slice A0 l0.length c0,.bool a1] w fun e w'=>∃v0_:Value,e=.returned (.agg #[v0_,.bool r2])∧Kd.V (Kd.int .u64) 48 w' w.heap.size (fun k_=>(P0_ k_∨w.heap.size≤k_)) v0_ r1∧Below w.heap.size w w':=by
 have aa:=Tryz.underlying90
 have K:=Kp.refl w
 replace K:=K.parV (Kd.V_mono (ok':=fun k=>P0_ k) hs0 (fun _ h=>h))
 clear hs0
 try simp only[klv]at K
 rw[whole_signed.f]at h
 by_cases c_0:a1=true
 ·subst c_0
  rw[if_pos rfl]at h
  replace h:=bindA h
  obtain⟨z3,A4,h⟩:=h
  simp only[Option.some.injEq,Prod.mk.injEq]at h
  obtain⟨rfl,rfl⟩:=h
  go_enter Tryz.func144,Tryz.ntmps144
  go_wp2_with (first|(refine gd 4 rfl ?_;refine kbk 4 #[.slice none 0 0,.bool false] 90 K.u ?_;clear K;intro g1 W2 K)|(refine gd 9 rfl ?_;refine gate_guard F0 ?_;refine kgl (some 9) rfl rfl Tryz.func94 #[.slice A0 l0.length c0] rfl ?_;refine(whole_amount_null.calls _ _ l0 z3 _ (K.C 0 rfl) (K.le 0 rfl) A4.out).mono ?_;rintro e W5 ⟨rfl,hb⟩;refine⟨_,rfl,?_⟩;replace K:=K.u.up hb.below;clear hb)|(refine gs 90 4 12 rfl ?_;refine ks2 0 (.slice A0 l0.length c0) (.bool !z3) K.u rfl ?_;clear K;intro W6 K;simp only[kls,klv]at K))
  refine bodyPost_ret (results_single rfl (.cell g1 90 #[.slice A0 l0.length c0,.bool !z3] (0,0) _ rfl (K.u.heap 0 rfl) Tryz.underlying90 rfl Y0 .nil)) rfl ?_
  exact⟨_,rfl,K.u.hand 0 rfl (fun k_ h=>h.elim (fun h=>.inl h) .inr),K.u.below⟩
 replace c_0:=Bool.eq_false_iff.mpr c_0
 subst c_0
 rw[if_neg X0]at h
 simp only[Option.some.injEq,Prod.mk.injEq]at h
 obtain⟨rfl,rfl⟩:=h
 go_enter Tryz.func144,Tryz.ntmps144
 go_wp2_with (first|(refine gd 4 rfl ?_;refine kbk 4 #[.slice none 0 0,.bool false] 90 K.u ?_;clear K;intro g1 W2 K)|(refine gs 90 4 12 rfl ?_;refine ks2 0 (.slice A0 l0.length c0) (.bool false) K.u rfl ?_;clear K;intro W3 K;simp only[kls,klv]at K))
 refine bodyPost_ret (results_single rfl (.cell g1 90 #[.slice A0 l0.length c0,.bool false] (0,0) _ rfl (K.u.heap 0 rfl) Tryz.underlying90 rfl Y0 .nil)) rfl ?_
 exact⟨_,rfl,K.u.hand 0 rfl (fun k_ h=>h.elim (fun h=>.inl h) .inr),K.u.below⟩
mutual
def bits_Div64.j2:Nat→Int→Int→Int→Int→Int→Int→Int→Int→Option (Int×Int)
 | 0,_,_,_,_,_,_,_,_=>none
 | k+1,x2,x8,x9,x10,x11,x13,x14,x15=>if x9=0 then(none) else(bits_Div64.l1 k x2 x8 x9 x10 x14 x15 (IntKind.u64.wrap ((IntKind.u64.wrap ((IntKind.u64.wrap ((IntKind.u64.wrap (x11*4294967296))+x13))-(IntKind.u64.wrap (x15*x2))))-(IntKind.u64.wrap ((IntKind.u64.wrap (Int.tdiv (IntKind.u64.wrap ((IntKind.u64.wrap ((IntKind.u64.wrap (x11*4294967296))+x13))-(IntKind.u64.wrap (x15*x2)))) x9))*x9)))) (IntKind.u64.wrap ((IntKind.u64.wrap ((IntKind.u64.wrap (x11*4294967296))+x13))-(IntKind.u64.wrap (x15*x2)))) (IntKind.u64.wrap (Int.tdiv (IntKind.u64.wrap ((IntKind.u64.wrap ((IntKind.u64.wrap (x11*4294967296))+x13))-(IntKind.u64.wrap (x15*x2)))) x9)))
def bits_Div64.l1:Nat→Int→Int→Int→Int→Int→Int→Int→Int→Int→Option (Int×Int)
 | 0,_,_,_,_,_,_,_,_,_=>none
 | k+1,x2,x8,x9,x10,x14,x15,x16,x17,x18=>if x18≥4294967296 then(bits_Div64.j4 k x2 x8 x9 x10 x14 x15 x16 x17 x18 true) else(bits_Div64.j4 k x2 x8 x9 x10 x14 x15 x16 x17 x18 (decide ((IntKind.u64.wrap (x18*x10))>(IntKind.u64.wrap ((IntKind.u64.wrap (4294967296*x16))+x14)))))
def bits_Div64.j4:Nat→Int→Int→Int→Int→Int→Int→Int→Int→Int→Bool→Option (Int×Int)
 | 0,_,_,_,_,_,_,_,_,_,_=>none
 | k+1,x2,x8,x9,x10,x14,x15,x16,x17,x18,x113=>if x113=true then(if(IntKind.u64.wrap (x16+x9))≥4294967296 then(if 0≤x8 then(some (IntKind.u64.wrap ((IntKind.u64.wrap (x15*4294967296))+(IntKind.u64.wrap (x18-1))),shr .u64 (IntKind.u64.wrap ((IntKind.u64.wrap ((IntKind.u64.wrap (x17*4294967296))+x14))-(IntKind.u64.wrap ((IntKind.u64.wrap (x18-1))*x2)))) x8)) else(none)) else(bits_Div64.l1 k x2 x8 x9 x10 x14 x15 (IntKind.u64.wrap (x16+x9)) x17 (IntKind.u64.wrap (x18-1)))) else(if 0≤x8 then(some (IntKind.u64.wrap ((IntKind.u64.wrap (x15*4294967296))+x18),shr .u64 (IntKind.u64.wrap ((IntKind.u64.wrap ((IntKind.u64.wrap (x17*4294967296))+x14))-(IntKind.u64.wrap (x18*x2)))) x8)) else(none))
def bits_Div64.l0:Nat→Int→Int→Int→Int→Int→Int→Int→Int→Int→Option (Int×Int)
 | 0,_,_,_,_,_,_,_,_,_=>none
 | k+1,x2,x8,x9,x10,x11,x13,x14,x15,x16=>if x15≥4294967296 then(bits_Div64.j1 k x2 x8 x9 x10 x11 x13 x14 x15 x16 true) else(bits_Div64.j1 k x2 x8 x9 x10 x11 x13 x14 x15 x16 (decide ((IntKind.u64.wrap (x15*x10))>(IntKind.u64.wrap ((IntKind.u64.wrap (4294967296*x16))+x13)))))
def bits_Div64.j1:Nat→Int→Int→Int→Int→Int→Int→Int→Int→Int→Bool→Option (Int×Int)
 | 0,_,_,_,_,_,_,_,_,_,_=>none
 | k+1,x2,x8,x9,x10,x11,x13,x14,x15,x16,x78=>if x78=true then(if(IntKind.u64.wrap (x16+x9))≥4294967296 then(bits_Div64.j2 k x2 x8 x9 x10 x11 x13 x14 (IntKind.u64.wrap (x15-1))) else(bits_Div64.l0 k x2 x8 x9 x10 x11 x13 x14 (IntKind.u64.wrap (x15-1)) (IntKind.u64.wrap (x16+x9)))) else(bits_Div64.j2 k x2 x8 x9 x10 x11 x13 x14 x15)
end
def bits_Div64.f (k:Nat) (a0:Int) (a1:Int) (a2:Int):Option (Int×Int):=if a2=0 then(none) else(if a2≤a0 then(none) else(if a0=0 then(some (IntKind.u64.wrap (Int.tdiv a1 a2),Int.tmod a1 a2)) else((bits_LeadingZeros64.f a2).bind fun t158=>(if 0≤(IntKind.u64.wrap (t158)) then(if 0≤(IntKind.u64.wrap (64-(IntKind.u64.wrap (t158)))) then(if((shl .u64 a2 (IntKind.u64.wrap (t158)))/4294967296)=0 then(none) else(bits_Div64.l0 k (shl .u64 a2 (IntKind.u64.wrap (t158))) (IntKind.u64.wrap (t158)) ((shl .u64 a2 (IntKind.u64.wrap (t158)))/4294967296) (Go.bits .and .u64 (shl .u64 a2 (IntKind.u64.wrap (t158))) 4294967295) (Go.bits .or .u64 (shl .u64 a0 (IntKind.u64.wrap (t158))) (shr .u64 a1 (IntKind.u64.wrap (64-(IntKind.u64.wrap (t158)))))) ((shl .u64 a1 (IntKind.u64.wrap (t158)))/4294967296) (Go.bits .and .u64 (shl .u64 a1 (IntKind.u64.wrap (t158))) 4294967295) (IntKind.u64.wrap (Int.tdiv (Go.bits .or .u64 (shl .u64 a0 (IntKind.u64.wrap (t158))) (shr .u64 a1 (IntKind.u64.wrap (64-(IntKind.u64.wrap (t158)))))) ((shl .u64 a2 (IntKind.u64.wrap (t158)))/4294967296))) (IntKind.u64.wrap ((Go.bits .or .u64 (shl .u64 a0 (IntKind.u64.wrap (t158))) (shr .u64 a1 (IntKind.u64.wrap (64-(IntKind.u64.wrap (t158))))))-(IntKind.u64.wrap ((IntKind.u64.wrap (Int.tdiv (Go.bits .or .u64 (shl .u64 a0 (IntKind.u64.wrap (t158))) (shr .u64 a1 (IntKind.u64.wrap (64-(IntKind.u64.wrap (t158)))))) ((shl .u64 a2 (IntKind.u64.wrap (t158)))/4294967296)))*((shl .u64 a2 (IntKind.u64.wrap (t158)))/4294967296))))))) else(none)) else(none)))))
theorem bits_Div64.mono_l:∀k,(∀y0 y1 y2 y3 y4 y5 y6 y7,LeO (bits_Div64.j2 k y0 y1 y2 y3 y4 y5 y6 y7) (bits_Div64.j2 (k+1) y0 y1 y2 y3 y4 y5 y6 y7))∧(∀y0 y1 y2 y3 y4 y5 y6 y7 y8,LeO (bits_Div64.l1 k y0 y1 y2 y3 y4 y5 y6 y7 y8) (bits_Div64.l1 (k+1) y0 y1 y2 y3 y4 y5 y6 y7 y8))∧(∀y0 y1 y2 y3 y4 y5 y6 y7 y8 y9,LeO (bits_Div64.j4 k y0 y1 y2 y3 y4 y5 y6 y7 y8 y9) (bits_Div64.j4 (k+1) y0 y1 y2 y3 y4 y5 y6 y7 y8 y9))∧(∀y0 y1 y2 y3 y4 y5 y6 y7 y8,LeO (bits_Div64.l0 k y0 y1 y2 y3 y4 y5 y6 y7 y8) (bits_Div64.l0 (k+1) y0 y1 y2 y3 y4 y5 y6 y7 y8))∧(∀y0 y1 y2 y3 y4 y5 y6 y7 y8 y9,LeO (bits_Div64.j1 k y0 y1 y2 y3 y4 y5 y6 y7 y8 y9) (bits_Div64.j1 (k+1) y0 y1 y2 y3 y4 y5 y6 y7 y8 y9))
 | 0=>⟨fun _ _ _ _ _ _ _ _ r h=>by simp[bits_Div64.j2]at h,fun _ _ _ _ _ _ _ _ _ r h=>by simp[bits_Div64.l1]at h,fun _ _ _ _ _ _ _ _ _ _ r h=>by simp[bits_Div64.j4]at h,fun _ _ _ _ _ _ _ _ _ r h=>by simp[bits_Div64.l0]at h,fun _ _ _ _ _ _ _ _ _ _ r h=>by simp[bits_Div64.j1]at h⟩
 | k+1=>by
  obtain⟨ih0,ih1,ih2,ih3,ih4⟩:=bits_Div64.mono_l k
  refine⟨?_,?_,?_,?_,?_⟩
  ·intro y0 y1 y2 y3 y4 y5 y6 y7
   unfold bits_Div64.j2
   repeat' first
   | (with_reducible exact ih0 _ _ _ _ _ _ _ _)
   | (with_reducible exact ih1 _ _ _ _ _ _ _ _ _)
   | (with_reducible exact ih2 _ _ _ _ _ _ _ _ _ _)
   | (with_reducible exact ih3 _ _ _ _ _ _ _ _ _)
   | (with_reducible exact ih4 _ _ _ _ _ _ _ _ _ _)
   | (with_reducible exact LeO.refl _)
   | (with_reducible exact LeO.none _)
   | (with_reducible refine LeO.ite ?_ ?_)
   | (with_reducible refine LeO.bind ?_ (fun _=>?_))
   | exact ih0 _ _ _ _ _ _ _ _
   | exact ih1 _ _ _ _ _ _ _ _ _
   | exact ih2 _ _ _ _ _ _ _ _ _ _
   | exact ih3 _ _ _ _ _ _ _ _ _
   | exact ih4 _ _ _ _ _ _ _ _ _ _
   | exact LeO.none _
   | refine LeO.ite ?_ ?_
   | refine LeO.bind ?_ (fun _=>?_)
  ·intro y0 y1 y2 y3 y4 y5 y6 y7 y8
   unfold bits_Div64.l1
   repeat' first
   | (with_reducible exact ih0 _ _ _ _ _ _ _ _)
   | (with_reducible exact ih1 _ _ _ _ _ _ _ _ _)
   | (with_reducible exact ih2 _ _ _ _ _ _ _ _ _ _)
   | (with_reducible exact ih3 _ _ _ _ _ _ _ _ _)
   | (with_reducible exact ih4 _ _ _ _ _ _ _ _ _ _)
   | (with_reducible exact LeO.refl _)
   | (with_reducible exact LeO.none _)
   | (with_reducible refine LeO.ite ?_ ?_)
   | (with_reducible refine LeO.bind ?_ (fun _=>?_))
   | exact ih0 _ _ _ _ _ _ _ _
   | exact ih1 _ _ _ _ _ _ _ _ _
   | exact ih2 _ _ _ _ _ _ _ _ _ _
   | exact ih3 _ _ _ _ _ _ _ _ _
   | exact ih4 _ _ _ _ _ _ _ _ _ _
   | exact LeO.none _
   | refine LeO.ite ?_ ?_
   | refine LeO.bind ?_ (fun _=>?_)
  ·intro y0 y1 y2 y3 y4 y5 y6 y7 y8 y9
   unfold bits_Div64.j4
   repeat' first
   | (with_reducible exact ih0 _ _ _ _ _ _ _ _)
   | (with_reducible exact ih1 _ _ _ _ _ _ _ _ _)
   | (with_reducible exact ih2 _ _ _ _ _ _ _ _ _ _)
   | (with_reducible exact ih3 _ _ _ _ _ _ _ _ _)
   | (with_reducible exact ih4 _ _ _ _ _ _ _ _ _ _)
   | (with_reducible exact LeO.refl _)
   | (with_reducible exact LeO.none _)
   | (with_reducible refine LeO.ite ?_ ?_)
   | (with_reducible refine LeO.bind ?_ (fun _=>?_))
   | exact ih0 _ _ _ _ _ _ _ _
   | exact ih1 _ _ _ _ _ _ _ _ _
   | exact ih2 _ _ _ _ _ _ _ _ _ _
   | exact ih3 _ _ _ _ _ _ _ _ _
   | exact ih4 _ _ _ _ _ _ _ _ _ _
   | exact LeO.none _
   | refine LeO.ite ?_ ?_
   | refine LeO.bind ?_ (fun _=>?_)
  ·intro y0 y1 y2 y3 y4 y5 y6 y7 y8
   unfold bits_Div64.l0
   repeat' first
   | (with_reducible exact ih0 _ _ _ _ _ _ _ _)
   | (with_reducible exact ih1 _ _ _ _ _ _ _ _ _)
   | (with_reducible exact ih2 _ _ _ _ _ _ _ _ _ _)
   | (with_reducible exact ih3 _ _ _ _ _ _ _ _ _)
   | (with_reducible exact ih4 _ _ _ _ _ _ _ _ _ _)
   | (with_reducible exact LeO.refl _)
   | (with_reducible exact LeO.none _)
   | (with_reducible refine LeO.ite ?_ ?_)
   | (with_reducible refine LeO.bind ?_ (fun _=>?_))
   | exact ih0 _ _ _ _ _ _ _ _
   | exact ih1 _ _ _ _ _ _ _ _ _
   | exact ih2 _ _ _ _ _ _ _ _ _ _
   | exact ih3 _ _ _ _ _ _ _ _ _
   | exact ih4 _ _ _ _ _ _ _ _ _ _
   | exact LeO.none _
   | refine LeO.ite ?_ ?_
   | refine LeO.bind ?_ (fun _=>?_)
  intro y0 y1 y2 y3 y4 y5 y6 y7 y8 y9
  unfold bits_Div64.j1
  repeat' first
  | (with_reducible exact ih0 _ _ _ _ _ _ _ _)
  | (with_reducible exact ih1 _ _ _ _ _ _ _ _ _)
  | (with_reducible exact ih2 _ _ _ _ _ _ _ _ _ _)
  | (with_reducible exact ih3 _ _ _ _ _ _ _ _ _)
  | (with_reducible exact ih4 _ _ _ _ _ _ _ _ _ _)
  | (with_reducible exact LeO.refl _)
  | (with_reducible exact LeO.none _)
  | (with_reducible refine LeO.ite ?_ ?_)
  | (with_reducible refine LeO.bind ?_ (fun _=>?_))
  | exact ih0 _ _ _ _ _ _ _ _
  | exact ih1 _ _ _ _ _ _ _ _ _
  | exact ih2 _ _ _ _ _ _ _ _ _ _
  | exact ih3 _ _ _ _ _ _ _ _ _
  | exact ih4 _ _ _ _ _ _ _ _ _ _
  | exact LeO.none _
  | refine LeO.ite ?_ ?_
  | refine LeO.bind ?_ (fun _=>?_)
theorem bits_Div64.mono:∀a0 a1 a2 k,LeO (bits_Div64.f k a0 a1 a2) (bits_Div64.f (k+1) a0 a1 a2):=by
 intro a0 a1 a2 k
 obtain⟨ih0,ih1,ih2,ih3,ih4⟩:=bits_Div64.mono_l k
 unfold bits_Div64.f
 repeat' first
   | (with_reducible exact ih0 _ _ _ _ _ _ _ _)
   | (with_reducible exact ih1 _ _ _ _ _ _ _ _ _)
   | (with_reducible exact ih2 _ _ _ _ _ _ _ _ _ _)
   | (with_reducible exact ih3 _ _ _ _ _ _ _ _ _)
   | (with_reducible exact ih4 _ _ _ _ _ _ _ _ _ _)
   | (with_reducible exact LeO.refl _)
   | (with_reducible exact LeO.none _)
   | (with_reducible refine LeO.ite ?_ ?_)
   | (with_reducible refine LeO.bind ?_ (fun _=>?_))
   | exact ih0 _ _ _ _ _ _ _ _
   | exact ih1 _ _ _ _ _ _ _ _ _
   | exact ih2 _ _ _ _ _ _ _ _ _ _
   | exact ih3 _ _ _ _ _ _ _ _ _
   | exact ih4 _ _ _ _ _ _ _ _ _ _
   | exact LeO.none _
   | refine LeO.ite ?_ ?_
   | refine LeO.bind ?_ (fun _=>?_)
theorem bits_Div64.calls (k:Nat) (a0:Int) (a1:Int) (a2:Int) (r1:Int) (r2:Int) (w:World) (h:bits_Div64.f k a0 a1 a2=some (r1,r2)) :
  Calls Tryz.prog 172 #[.int .u64 a0,.int .u64 a1,.int .u64 a2] w fun e w'=>e=.returned (.tuple #[.int .u64 r1,.int .u64 r2])∧Drawn0 w w':=by
 have H:(if a2=0 then(none) else(if a2≤a0 then(none) else(if a0=0 then(some (IntKind.u64.wrap (Int.tdiv a1 a2),Int.tmod a1 a2)) else((bits_LeadingZeros64.f a2).bind fun ab=>(if 0≤(IntKind.u64.wrap (ab)) then(if 0≤(IntKind.u64.wrap (64-(IntKind.u64.wrap (ab)))) then(if((shl .u64 a2 (IntKind.u64.wrap (ab)))/4294967296)=0 then(none) else(bits_Div64.l0 k (shl .u64 a2 (IntKind.u64.wrap (ab))) (IntKind.u64.wrap (ab)) ((shl .u64 a2 (IntKind.u64.wrap (ab)))/4294967296) (Go.bits .and .u64 (shl .u64 a2 (IntKind.u64.wrap (ab))) 4294967295) (Go.bits .or .u64 (shl .u64 a0 (IntKind.u64.wrap (ab))) (shr .u64 a1 (IntKind.u64.wrap (64-(IntKind.u64.wrap (ab)))))) ((shl .u64 a1 (IntKind.u64.wrap (ab)))/4294967296) (Go.bits .and .u64 (shl .u64 a1 (IntKind.u64.wrap (ab))) 4294967295) (IntKind.u64.wrap (Int.tdiv (Go.bits .or .u64 (shl .u64 a0 (IntKind.u64.wrap (ab))) (shr .u64 a1 (IntKind.u64.wrap (64-(IntKind.u64.wrap (ab)))))) ((shl .u64 a2 (IntKind.u64.wrap (ab)))/4294967296))) (IntKind.u64.wrap ((Go.bits .or .u64 (shl .u64 a0 (IntKind.u64.wrap (ab))) (shr .u64 a1 (IntKind.u64.wrap (64-(IntKind.u64.wrap (ab))))))-(IntKind.u64.wrap ((IntKind.u64.wrap (Int.tdiv (Go.bits .or .u64 (shl .u64 a0 (IntKind.u64.wrap (ab))) (shr .u64 a1 (IntKind.u64.wrap (64-(IntKind.u64.wrap (ab)))))) ((shl .u64 a2 (IntKind.u64.wrap (ab)))/4294967296)))*((shl .u64 a2 (IntKind.u64.wrap (ab)))/4294967296))))))) else(none)) else(none))))))=some (r1,r2):=h
 clear h
 by_cases c4:a2=0
 ·rw[if_pos c4]at H
  exact absurd H Z1
 rw[if_neg c4]at H
 have aE:(a2==0)=false:=beq_eq_false_iff_ne.mpr c4
 have aF:(a2 != 0)=true:=bne_iff_ne.mpr c4
 by_cases c5:a2≤a0
 ·rw[if_pos c5]at H
  exact absurd H Z1
 rw[if_neg c5]at H
 have aG:decide (a2≤a0)=false:=decide_eq_false c5
 clear c5
 by_cases c6:a0=0
 ·rw[if_pos c6]at H
  have aB:(a0==0)=true:=beq_iff_eq.mpr c6
  have aC:(a0 != 0)=false:=bne_eq_false_iff_eq.mpr c6
  clear c6
  simp only[Option.some.injEq,Prod.mk.injEq]at H
  obtain⟨rfl,rfl⟩:=H
  go_enter Tryz.func172,Tryz.ntmps172
  go_wp2
  repeat (go_quiet (fail);try go_wp2)
  go_ret2
  exact⟨J0,Y1⟩
 rw[if_neg c6]at H
 have aB:(a0==0)=false:=beq_eq_false_iff_ne.mpr c6
 have aC:(a0 != 0)=true:=bne_iff_ne.mpr c6
 replace H:=Option.bind_eq_some_iff.mp H
 obtain⟨ab,A70,H⟩:=H
 replace H:(if 0≤(IntKind.u64.wrap (ab)) then(if 0≤(IntKind.u64.wrap (64-(IntKind.u64.wrap (ab)))) then(if((shl .u64 a2 (IntKind.u64.wrap (ab)))/4294967296)=0 then(none) else(bits_Div64.l0 k (shl .u64 a2 (IntKind.u64.wrap (ab))) (IntKind.u64.wrap (ab)) ((shl .u64 a2 (IntKind.u64.wrap (ab)))/4294967296) (Go.bits .and .u64 (shl .u64 a2 (IntKind.u64.wrap (ab))) 4294967295) (Go.bits .or .u64 (shl .u64 a0 (IntKind.u64.wrap (ab))) (shr .u64 a1 (IntKind.u64.wrap (64-(IntKind.u64.wrap (ab)))))) ((shl .u64 a1 (IntKind.u64.wrap (ab)))/4294967296) (Go.bits .and .u64 (shl .u64 a1 (IntKind.u64.wrap (ab))) 4294967295) (IntKind.u64.wrap (Int.tdiv (Go.bits .or .u64 (shl .u64 a0 (IntKind.u64.wrap (ab))) (shr .u64 a1 (IntKind.u64.wrap (64-(IntKind.u64.wrap (ab)))))) ((shl .u64 a2 (IntKind.u64.wrap (ab)))/4294967296))) (IntKind.u64.wrap ((Go.bits .or .u64 (shl .u64 a0 (IntKind.u64.wrap (ab))) (shr .u64 a1 (IntKind.u64.wrap (64-(IntKind.u64.wrap (ab))))))-(IntKind.u64.wrap ((IntKind.u64.wrap (Int.tdiv (Go.bits .or .u64 (shl .u64 a0 (IntKind.u64.wrap (ab))) (shr .u64 a1 (IntKind.u64.wrap (64-(IntKind.u64.wrap (ab)))))) ((shl .u64 a2 (IntKind.u64.wrap (ab)))/4294967296)))*((shl .u64 a2 (IntKind.u64.wrap (ab)))/4294967296))))))) else(none)) else(none))=some (r1,r2):=H
 have A7:=Aside0.mk A70
 clear A70
 obtain⟨ji8,aH⟩:∃j_:Int,(IntKind.u64.wrap (ab))=j_:=⟨_,rfl⟩
 replace H:(if 0≤(ji8) then(if 0≤(IntKind.u64.wrap (64-(ji8))) then(if((shl .u64 a2 (ji8))/4294967296)=0 then(none) else(bits_Div64.l0 k (shl .u64 a2 (ji8)) ji8 ((shl .u64 a2 (ji8))/4294967296) (Go.bits .and .u64 (shl .u64 a2 (ji8)) 4294967295) (Go.bits .or .u64 (shl .u64 a0 (ji8)) (shr .u64 a1 (IntKind.u64.wrap (64-(ji8))))) ((shl .u64 a1 (ji8))/4294967296) (Go.bits .and .u64 (shl .u64 a1 (ji8)) 4294967295) (IntKind.u64.wrap (Int.tdiv (Go.bits .or .u64 (shl .u64 a0 (ji8)) (shr .u64 a1 (IntKind.u64.wrap (64-(ji8))))) ((shl .u64 a2 (ji8))/4294967296))) (IntKind.u64.wrap ((Go.bits .or .u64 (shl .u64 a0 (ji8)) (shr .u64 a1 (IntKind.u64.wrap (64-(ji8)))))-(IntKind.u64.wrap ((IntKind.u64.wrap (Int.tdiv (Go.bits .or .u64 (shl .u64 a0 (ji8)) (shr .u64 a1 (IntKind.u64.wrap (64-(ji8))))) ((shl .u64 a2 (ji8))/4294967296)))*((shl .u64 a2 (ji8))/4294967296))))))) else(none)) else(none))=some (r1,r2):=by first|(rw[aH]at H;exact H)|(simp only[aH]at H ⊢;exact H)
 (try rw[aH]at A7)
 by_cases c9:0≤(ji8)
 ·rw [if_pos c9]at H
  have aI:=eq_true c9
  have aJ:decide (0≤(ji8))=true:=decide_eq_true c9
  clear c9
  obtain⟨aa,hji10⟩:∃j_:Int,(shl .u64 a2 (ji8))=j_:=⟨_,rfl⟩
  replace H:(if 0≤(IntKind.u64.wrap (64-(ji8))) then(if((aa)/4294967296)=0 then(none) else(bits_Div64.l0 k aa ji8 ((aa)/4294967296) (Go.bits .and .u64 (aa) 4294967295) (Go.bits .or .u64 (shl .u64 a0 (ji8)) (shr .u64 a1 (IntKind.u64.wrap (64-(ji8))))) ((shl .u64 a1 (ji8))/4294967296) (Go.bits .and .u64 (shl .u64 a1 (ji8)) 4294967295) (IntKind.u64.wrap (Int.tdiv (Go.bits .or .u64 (shl .u64 a0 (ji8)) (shr .u64 a1 (IntKind.u64.wrap (64-(ji8))))) ((aa)/4294967296))) (IntKind.u64.wrap ((Go.bits .or .u64 (shl .u64 a0 (ji8)) (shr .u64 a1 (IntKind.u64.wrap (64-(ji8)))))-(IntKind.u64.wrap ((IntKind.u64.wrap (Int.tdiv (Go.bits .or .u64 (shl .u64 a0 (ji8)) (shr .u64 a1 (IntKind.u64.wrap (64-(ji8))))) ((aa)/4294967296)))*((aa)/4294967296))))))) else(none))=some (r1,r2):=by first|(rw[hji10]at H;exact H)|(simp only[hji10]at H ⊢;exact H)
  (try rw[hji10]at A7)
  have hji10_:(IntKind.u64.wrap (a2*2^min (ji8).toNat 64))=aa:=hji10
  have bb:(ji8)≤64→(IntKind.u64.wrap (a2*2^(ji8).toNat))=aa:=shl_small hji10
  have ao:=eq_true (of_decide_eq_true ‹_›:0≤(ji8))
  obtain⟨ad,hji12⟩:∃j_:Int,(shl .u64 a0 (ji8))=j_:=⟨_,rfl⟩
  replace H:(if 0≤(IntKind.u64.wrap (64-(ji8))) then(if((aa)/4294967296)=0 then(none) else(bits_Div64.l0 k aa ji8 ((aa)/4294967296) (Go.bits .and .u64 (aa) 4294967295) (Go.bits .or .u64 (ad) (shr .u64 a1 (IntKind.u64.wrap (64-(ji8))))) ((shl .u64 a1 (ji8))/4294967296) (Go.bits .and .u64 (shl .u64 a1 (ji8)) 4294967295) (IntKind.u64.wrap (Int.tdiv (Go.bits .or .u64 (ad) (shr .u64 a1 (IntKind.u64.wrap (64-(ji8))))) ((aa)/4294967296))) (IntKind.u64.wrap ((Go.bits .or .u64 (ad) (shr .u64 a1 (IntKind.u64.wrap (64-(ji8)))))-(IntKind.u64.wrap ((IntKind.u64.wrap (Int.tdiv (Go.bits .or .u64 (ad) (shr .u64 a1 (IntKind.u64.wrap (64-(ji8))))) ((aa)/4294967296)))*((aa)/4294967296))))))) else(none))=some (r1,r2):=by first|(rw[hji12]at H;exact H)|(simp only[hji12]at H ⊢;exact H)
  (try rw[hji12]at A7)
  have hji12_:(IntKind.u64.wrap (a0*2^min (ji8).toNat 64))=ad:=hji12
  have bc:(ji8)≤64→(IntKind.u64.wrap (a0*2^(ji8).toNat))=ad:=shl_small hji12
  obtain⟨al,ap⟩:∃j_:Int,(IntKind.u64.wrap (64-(ji8)))=j_:=⟨_,rfl⟩
  replace H:(if 0≤(al) then(if((aa)/4294967296)=0 then(none) else(bits_Div64.l0 k aa ji8 ((aa)/4294967296) (Go.bits .and .u64 (aa) 4294967295) (Go.bits .or .u64 (ad) (shr .u64 a1 (al))) ((shl .u64 a1 (ji8))/4294967296) (Go.bits .and .u64 (shl .u64 a1 (ji8)) 4294967295) (IntKind.u64.wrap (Int.tdiv (Go.bits .or .u64 (ad) (shr .u64 a1 (al))) ((aa)/4294967296))) (IntKind.u64.wrap ((Go.bits .or .u64 (ad) (shr .u64 a1 (al)))-(IntKind.u64.wrap ((IntKind.u64.wrap (Int.tdiv (Go.bits .or .u64 (ad) (shr .u64 a1 (al))) ((aa)/4294967296)))*((aa)/4294967296))))))) else(none))=some (r1,r2):=by first|(rw[ap]at H;exact H)|(simp only[ap]at H ⊢;exact H)
  (try rw[ap]at A7)
  by_cases c14:0≤(al)
  ·rw [if_pos c14]at H
   have aq:=eq_true c14
   have ar:decide (0≤(al))=true:=decide_eq_true c14
   clear c14
   obtain⟨af,hji15⟩:∃j_:Int,(shr .u64 a1 (al))=j_:=⟨_,rfl⟩
   replace H:(if((aa)/4294967296)=0 then(none) else(bits_Div64.l0 k aa ji8 ((aa)/4294967296) (Go.bits .and .u64 (aa) 4294967295) (Go.bits .or .u64 (ad) (af)) ((shl .u64 a1 (ji8))/4294967296) (Go.bits .and .u64 (shl .u64 a1 (ji8)) 4294967295) (IntKind.u64.wrap (Int.tdiv (Go.bits .or .u64 (ad) (af)) ((aa)/4294967296))) (IntKind.u64.wrap ((Go.bits .or .u64 (ad) (af))-(IntKind.u64.wrap ((IntKind.u64.wrap (Int.tdiv (Go.bits .or .u64 (ad) (af)) ((aa)/4294967296)))*((aa)/4294967296)))))))=some (r1,r2):=by first|(rw[hji15]at H;exact H)|(simp only[hji15]at H ⊢;exact H)
   (try rw[hji15]at A7)
   have hji15_:(a1/2^min (al).toNat 64)=af:=hji15
   have bd:(al)≤64→(a1/2^(al).toNat)=af:=shr_small hji15
   have au:=eq_true (of_decide_eq_true ‹_›:0≤(ji8))
   obtain⟨ac,hji17⟩:∃j_:Int,(shl .u64 a1 (ji8))=j_:=⟨_,rfl⟩
   replace H:(if((aa)/4294967296)=0 then(none) else(bits_Div64.l0 k aa ji8 ((aa)/4294967296) (Go.bits .and .u64 (aa) 4294967295) (Go.bits .or .u64 (ad) (af)) ((ac)/4294967296) (Go.bits .and .u64 (ac) 4294967295) (IntKind.u64.wrap (Int.tdiv (Go.bits .or .u64 (ad) (af)) ((aa)/4294967296))) (IntKind.u64.wrap ((Go.bits .or .u64 (ad) (af))-(IntKind.u64.wrap ((IntKind.u64.wrap (Int.tdiv (Go.bits .or .u64 (ad) (af)) ((aa)/4294967296)))*((aa)/4294967296)))))))=some (r1,r2):=by first|(rw[hji17]at H;exact H)|(simp only[hji17]at H ⊢;exact H)
   (try rw[hji17]at A7)
   have hji17_:(IntKind.u64.wrap (a1*2^min (ji8).toNat 64))=ac:=hji17
   have be:(ji8)≤64→(IntKind.u64.wrap (a1*2^(ji8).toNat))=ac:=shl_small hji17
   by_cases c18:((aa)/4294967296)=0
   ·rw[if_pos c18]at H
    exact absurd H Z1
   rw[if_neg c18]at H
   have av:(((aa)/4294967296)==0)=false:=beq_eq_false_iff_ne.mpr c18
   have aw:(((aa)/4294967296) != 0)=true:=bne_iff_ne.mpr c18
   have aN:=Aside0.mk H
   clear H
   go_enter Tryz.func172,Tryz.ntmps172
   go_upto_block 0 with(first|(go_at_call 170;(with_reducible refine(bits_LeadingZeros64.calls a2 ab _ A7.out).mono ?_);rintro e w' ⟨rfl,⟨nd,rfl⟩⟩;(try first|exact⟨rfl,_,World.drewN_drewN _ _ _⟩|exact⟨rfl,_,Eq.trans (World.drewN_drewN _ _ _) (congrArg (World.drewN _) (Nat.add_assoc _ _ _))⟩)))
   repeat (go_quiet (first|(go_at_call 170;(with_reducible refine(bits_LeadingZeros64.calls a2 ab _ A7.out).mono ?_);rintro e w' ⟨rfl,⟨nd,rfl⟩⟩;(try first|exact⟨rfl,_,World.drewN_drewN _ _ _⟩|exact⟨rfl,_,Eq.trans (World.drewN_drewN _ _ _) (congrArg (World.drewN _) (Nat.add_assoc _ _ _))⟩)));go_upto_block 0 with(first|(go_at_call 170;(with_reducible refine(bits_LeadingZeros64.calls a2 ab _ A7.out).mono ?_);rintro e w' ⟨rfl,⟨nd,rfl⟩⟩;(try first|exact⟨rfl,_,World.drewN_drewN _ _ _⟩|exact⟨rfl,_,Eq.trans (World.drewN_drewN _ _ _) (congrArg (World.drewN _) (Nat.add_assoc _ _ _))⟩))))
   (try simp only[Act.put,kss])
   go_cut [15] (fun v15 wc=>∃(kq:Nat) (ae:Int),v15=.int .u64 ae∧Aside0 (bits_Div64.j2 kq aa ji8 ((aa)/4294967296) (Go.bits .and .u64 (aa) 4294967295) (Go.bits .or .u64 (ad) (af)) ((ac)/4294967296) (Go.bits .and .u64 (ac) 4294967295) ae=some (r1,r2))∧Aside0 (kq≤k)∧Drawn0 w wc)
   case first=>
    have H:=aN.out
    clear aN
    have H':=Aside0.mk H
    clear H
    go_wp2
    repeat (go_quiet (fail);try go_wp2)
    go_loopg [15,16] k (fun kq v15 v16 w'=>∃(ah:Int) (ai:Int),v15=.int .u64 ah∧v16=.int .u64 ai∧Aside0 (bits_Div64.l0 kq aa ji8 ((aa)/4294967296) (Go.bits .and .u64 (aa) 4294967295) (Go.bits .or .u64 (ad) (af)) ((ac)/4294967296) (Go.bits .and .u64 (ac) 4294967295) ah ai=some (r1,r2))∧Aside0 (kq≤k)∧Drawn0 w w')
    case atStart=>exact⟨(IntKind.u64.wrap (Int.tdiv (Go.bits .or .u64 (ad) (af)) ((aa)/4294967296))),(IntKind.u64.wrap ((Go.bits .or .u64 (ad) (af))-(IntKind.u64.wrap ((IntKind.u64.wrap (Int.tdiv (Go.bits .or .u64 (ad) (af)) ((aa)/4294967296)))*((aa)/4294967296))))),V6,V6,H',⟨Nat.le_refl _⟩,Y1⟩
    case round=>
     clear H'
     try clear c1
     try clear p2
     try clear c4
     try clear aE
     try clear aF
     try clear c5
     try clear aG
     try clear c6
     try clear aB
     try clear aC
     try clear c9
     try clear aI
     try clear aJ
     try clear c11
     try clear ao
     try clear c14
     try clear aq
     try clear ar
     try clear c16
     try clear au
     try clear c17
     try clear c18
     try clear av
     try clear aw
     obtain⟨ah,ai,rfl,rfl,HA,HK1,⟨m1,rfl⟩⟩:=hrel
     cases gk with
     | zero=>exact absurd HA.out (by simp[bits_Div64.l0])
     | succ k1=>
      have H:=HA.out
      clear HA
      simp only[bits_Div64.l0]at H
      have aO:=Aside0.mk H
      clear H
      go_upto_region 17 with(fail)
      repeat (go_quiet (fail);go_upto_region 17 with(fail))
      go_cut [78] (fun v78 wc=>∃(kq:Nat) (ax:Bool),v78=.bool ax∧Aside0 (bits_Div64.j1 kq aa ji8 ((aa)/4294967296) (Go.bits .and .u64 (aa) 4294967295) (Go.bits .or .u64 (ad) (af)) ((ac)/4294967296) (Go.bits .and .u64 (ac) 4294967295) ah ai ax=some (r1,r2))∧Aside0 (kq≤k1)∧Drawn0 w wc)
      case first=>
       have H:=aO.out
       clear aO
       by_cases c21:ah≥4294967296
       ·rw[if_pos c21]at H
        have ak:decide (4294967296≤ah)=true:=decide_eq_true c21
        clear c21
        (first|rw[ak]|rw[ay]|(simp only[i64_w,i32_w];rw[ak])|skip)
        have H':=Aside0.mk H
        clear H
        go_wp2
        repeat (go_quiet (fail);try go_wp2)
        go_meet
        case rel=>exact⟨_,(true),J0,H',⟨Z4⟩,Y1⟩
       rw[if_neg c21]at H
       have ak:decide (4294967296≤ah)=false:=decide_eq_false c21
       clear c21
       (first|rw[ak]|rw[ay]|(simp only[i64_w,i32_w];rw[ak])|skip)
       have H':=Aside0.mk H
       clear H
       go_wp2
       repeat (go_quiet (fail);try go_wp2)
       go_meet
       case rel=>exact⟨_,(decide ((IntKind.u64.wrap (ah*(Go.bits .and .u64 (aa) 4294967295)))>(IntKind.u64.wrap ((IntKind.u64.wrap (4294967296*ai))+((ac)/4294967296))))),J6,H',⟨Z4⟩,Y1⟩
      case rest=>
       clear aO
       try clear c1
       try clear c2
       try clear p2
       try clear c4
       try clear aE
       try clear aF
       try clear c5
       try clear aG
       try clear c6
       try clear aB
       try clear aC
       try clear c9
       try clear aI
       try clear aJ
       try clear c11
       try clear ao
       try clear c14
       try clear aq
       try clear ar
       try clear c16
       try clear au
       try clear c17
       try clear c18
       try clear av
       try clear aw
       try clear c21
       try clear ak
       try clear ay
       try clear p2
       obtain⟨kq,ax,rfl,HA,aK,⟨bl,rfl⟩⟩:=hcut
       cases kq with
       | zero=>exact absurd HA.out (by simp[bits_Div64.j1])
       | succ aL=>
        have H:=HA.out
        clear HA
        simp only[bits_Div64.j1]at H
        by_cases c22:ax=true
        ·subst c22
         have H1:(if(IntKind.u64.wrap (ai+((aa)/4294967296)))≥4294967296 then(bits_Div64.j2 aL aa ji8 ((aa)/4294967296) (Go.bits .and .u64 (aa) 4294967295) (Go.bits .or .u64 (ad) (af)) ((ac)/4294967296) (Go.bits .and .u64 (ac) 4294967295) (IntKind.u64.wrap (ah-1))) else(bits_Div64.l0 aL aa ji8 ((aa)/4294967296) (Go.bits .and .u64 (aa) 4294967295) (Go.bits .or .u64 (ad) (af)) ((ac)/4294967296) (Go.bits .and .u64 (ac) 4294967295) (IntKind.u64.wrap (ah-1)) (IntKind.u64.wrap (ai+((aa)/4294967296)))))=some (r1,r2):=by rw[if_pos rfl]at H;exact H
         clear H
         have H:=H1
         clear H1
         by_cases c23:(IntKind.u64.wrap (ai+((aa)/4294967296)))≥4294967296
         ·rw[if_pos c23]at H
          have aD:decide (4294967296≤(IntKind.u64.wrap (ai+((aa)/4294967296))))=true:=decide_eq_true c23
          clear c23
          have H':=Aside0.mk H
          clear H
          go_wp2
          repeat (go_quiet (fail);try go_wp2)
          go_meet
          case rel=>exact⟨_,(IntKind.u64.wrap (ah-1)),J0,H',⟨by have:=HK1.out;have:=aK.out;first|omega|exact Nat.le_refl _⟩,Y1⟩
         rw[if_neg c23]at H
         have aD:decide (4294967296≤(IntKind.u64.wrap (ai+((aa)/4294967296))))=false:=decide_eq_false c23
         clear c23
         have H':=Aside0.mk H
         clear H
         go_wp2
         repeat (go_quiet (fail);try go_wp2)
         go_roundg aL
         case measure=>have:=HK1.out;have:=aK.out;omega
         case rel=>exact⟨(IntKind.u64.wrap (ah-1)),(IntKind.u64.wrap (ai+((aa)/4294967296))),J0,D6,H',⟨by have:=HK1.out;have:=aK.out;omega⟩,Y1⟩
        replace c22:=Bool.eq_false_iff.mpr c22
        subst c22
        have H1:(bits_Div64.j2 aL aa ji8 ((aa)/4294967296) (Go.bits .and .u64 (aa) 4294967295) (Go.bits .or .u64 (ad) (af)) ((ac)/4294967296) (Go.bits .and .u64 (ac) 4294967295) ah)=some (r1,r2):=by rw[if_neg (show ¬(false=true) by decide)]at H;exact H
        clear H
        have H:=H1
        clear H1
        have H':=Aside0.mk H
        clear H
        go_wp2
        repeat (go_quiet (fail);try go_wp2)
        go_meet
        case rel=>exact⟨_,(ah),J0,H',⟨by have:=HK1.out;have:=aK.out;first|omega|exact Nat.le_refl _⟩,Y1⟩
   case rest=>
    clear aN
    try clear c1
    try clear c2
    try clear p2
    try clear c4
    try clear aE
    try clear aF
    try clear c5
    try clear aG
    try clear c6
    try clear aB
    try clear aC
    try clear c9
    try clear aI
    try clear aJ
    try clear c11
    try clear ao
    try clear c14
    try clear aq
    try clear ar
    try clear c16
    try clear au
    try clear c17
    try clear c18
    try clear av
    try clear aw
    try clear c19
    try clear c21
    try clear ak
    try clear ay
    try clear c22
    try clear c23
    try clear aD
    try clear p2
    obtain⟨kq,ae,rfl,HA,aM,⟨bn,rfl⟩⟩:=hcut
    cases kq with
    | zero=>exact absurd HA.out (by simp[bits_Div64.j2])
    | succ aV=>
     have H:=HA.out
     clear HA
     simp only[bits_Div64.j2]at H
     by_cases c24:((aa)/4294967296)=0
     ·rw[if_pos c24]at H
      exact absurd H Z1
     rw[if_neg c24]at H
     have aS:(((aa)/4294967296)==0)=false:=beq_eq_false_iff_ne.mpr c24
     have aT:(((aa)/4294967296) != 0)=true:=bne_iff_ne.mpr c24
     have H':=Aside0.mk H
     clear H
     go_wp2
     repeat (go_quiet (fail);try go_wp2)
     go_loopg [16,18] aV (fun kq v16 v18 w'=>∃(aj:Int) (ag:Int),v16=.int .u64 aj∧v18=.int .u64 ag∧Aside0 (bits_Div64.l1 kq aa ji8 ((aa)/4294967296) (Go.bits .and .u64 (aa) 4294967295) (Go.bits .and .u64 (ac) 4294967295) ae aj (IntKind.u64.wrap ((IntKind.u64.wrap ((IntKind.u64.wrap ((Go.bits .or .u64 (ad) (af))*4294967296))+((ac)/4294967296)))-(IntKind.u64.wrap (ae*aa)))) ag=some (r1,r2))∧Aside0 (kq≤aV)∧Drawn0 w w')
     case atStart=>exact⟨(IntKind.u64.wrap ((IntKind.u64.wrap ((IntKind.u64.wrap ((IntKind.u64.wrap ((Go.bits .or .u64 (ad) (af))*4294967296))+((ac)/4294967296)))-(IntKind.u64.wrap (ae*aa))))-(IntKind.u64.wrap ((IntKind.u64.wrap (Int.tdiv (IntKind.u64.wrap ((IntKind.u64.wrap ((IntKind.u64.wrap ((Go.bits .or .u64 (ad) (af))*4294967296))+((ac)/4294967296)))-(IntKind.u64.wrap (ae*aa)))) ((aa)/4294967296)))*((aa)/4294967296))))),(IntKind.u64.wrap (Int.tdiv (IntKind.u64.wrap ((IntKind.u64.wrap ((IntKind.u64.wrap ((Go.bits .or .u64 (ad) (af))*4294967296))+((ac)/4294967296)))-(IntKind.u64.wrap (ae*aa)))) ((aa)/4294967296))),Z6,Z6,H',⟨Nat.le_refl _⟩,Y1⟩
     case round=>
      clear H'
      try clear c1
      try clear c2
      try clear p2
      try clear c4
      try clear aE
      try clear aF
      try clear c5
      try clear aG
      try clear c6
      try clear aB
      try clear aC
      try clear c9
      try clear aI
      try clear aJ
      try clear c11
      try clear ao
      try clear c14
      try clear aq
      try clear ar
      try clear c16
      try clear au
      try clear c17
      try clear c18
      try clear av
      try clear aw
      try clear c19
      try clear c21
      try clear ak
      try clear ay
      try clear c22
      try clear c23
      try clear aD
      try clear c24
      try clear aS
      try clear aT
      try clear p2
      obtain⟨aj,ag,rfl,rfl,HA,HK2,⟨m2,rfl⟩⟩:=hrel
      cases gk with
      | zero=>exact absurd HA.out (by simp[bits_Div64.l1])
      | succ k2=>
       have H:=HA.out
       clear HA
       simp only[bits_Div64.l1]at H
       have aP:=Aside0.mk H
       clear H
       go_upto_region 24 with(fail)
       repeat (go_quiet (fail);go_upto_region 24 with(fail))
       go_cut [113] (fun aZ wc=>∃(kq:Nat) (am:Bool),aZ=.bool am∧Aside0 (bits_Div64.j4 kq aa ji8 ((aa)/4294967296) (Go.bits .and .u64 (aa) 4294967295) (Go.bits .and .u64 (ac) 4294967295) ae aj (IntKind.u64.wrap ((IntKind.u64.wrap ((IntKind.u64.wrap ((Go.bits .or .u64 (ad) (af))*4294967296))+((ac)/4294967296)))-(IntKind.u64.wrap (ae*aa)))) ag am=some (r1,r2))∧Aside0 (kq≤k2)∧Drawn0 w wc)
       case first=>
        have H:=aP.out
        clear aP
        by_cases c26:ag≥4294967296
        ·rw[if_pos c26]at H
         have an:decide (4294967296≤ag)=true:=decide_eq_true c26
         clear c26
         (first|rw[an]|rw[aU]|(simp only[i64_w,i32_w];rw[an])|skip)
         have H':=Aside0.mk H
         clear H
         go_wp2
         repeat (go_quiet (fail);try go_wp2)
         go_meet
         case rel=>exact⟨_,(true),J0,H',⟨by have:=aM.out;have:=HK2.out;first|omega|exact Nat.le_refl _⟩,Y1⟩
        rw[if_neg c26]at H
        have an:decide (4294967296≤ag)=false:=decide_eq_false c26
        clear c26
        (first|rw[an]|rw[aU]|(simp only[i64_w,i32_w];rw[an])|skip)
        have H':=Aside0.mk H
        clear H
        go_wp2
        repeat (go_quiet (fail);try go_wp2)
        go_meet
        case rel=>exact⟨_,(decide ((IntKind.u64.wrap (ag*(Go.bits .and .u64 (aa) 4294967295)))>(IntKind.u64.wrap ((IntKind.u64.wrap (4294967296*aj))+(Go.bits .and .u64 (ac) 4294967295))))),J6,H',⟨by have:=aM.out;have:=HK2.out;first|omega|exact Nat.le_refl _⟩,Y1⟩
       case rest=>
        clear aP
        try clear c1
        try clear c2
        try clear p2
        try clear c4
        try clear aE
        try clear aF
        try clear c5
        try clear aG
        try clear c6
        try clear aB
        try clear aC
        try clear c9
        try clear aI
        try clear aJ
        try clear c11
        try clear ao
        try clear c14
        try clear aq
        try clear ar
        try clear c16
        try clear au
        try clear c17
        try clear c18
        try clear av
        try clear aw
        try clear c19
        try clear c21
        try clear ak
        try clear ay
        try clear c22
        try clear c23
        try clear aD
        try clear c24
        try clear aS
        try clear aT
        try clear c26
        try clear an
        try clear aU
        try clear p2
        obtain⟨kq,am,rfl,HA,aW,⟨bo,rfl⟩⟩:=hcut
        cases kq with
        | zero=>exact absurd HA.out (by simp[bits_Div64.j4])
        | succ aX=>
         have H:=HA.out
         clear HA
         simp only[bits_Div64.j4]at H
         by_cases c27:am=true
         ·subst c27
          have H1:(if(IntKind.u64.wrap (aj+((aa)/4294967296)))≥4294967296 then(if 0≤ji8 then(some (IntKind.u64.wrap ((IntKind.u64.wrap (ae*4294967296))+(IntKind.u64.wrap (ag-1))),shr .u64 (IntKind.u64.wrap ((IntKind.u64.wrap ((IntKind.u64.wrap ((IntKind.u64.wrap ((IntKind.u64.wrap ((IntKind.u64.wrap ((Go.bits .or .u64 (ad) (af))*4294967296))+((ac)/4294967296)))-(IntKind.u64.wrap (ae*aa))))*4294967296))+(Go.bits .and .u64 (ac) 4294967295)))-(IntKind.u64.wrap ((IntKind.u64.wrap (ag-1))*aa)))) ji8)) else(none)) else(bits_Div64.l1 aX aa ji8 ((aa)/4294967296) (Go.bits .and .u64 (aa) 4294967295) (Go.bits .and .u64 (ac) 4294967295) ae (IntKind.u64.wrap (aj+((aa)/4294967296))) (IntKind.u64.wrap ((IntKind.u64.wrap ((IntKind.u64.wrap ((Go.bits .or .u64 (ad) (af))*4294967296))+((ac)/4294967296)))-(IntKind.u64.wrap (ae*aa)))) (IntKind.u64.wrap (ag-1))))=some (r1,r2):=by rw[if_pos rfl]at H;exact H
          clear H
          have H:=H1
          clear H1
          by_cases c28:(IntKind.u64.wrap (aj+((aa)/4294967296)))≥4294967296
          ·rw[if_pos c28]at H
           have aY:decide (4294967296≤(IntKind.u64.wrap (aj+((aa)/4294967296))))=true:=decide_eq_true c28
           clear c28
           by_cases c29:0≤ji8
           ·rw[if_pos c29]at H
            have bh:=eq_true c29
            have bi:decide (0≤ji8)=true:=decide_eq_true c29
            clear c29
            obtain⟨aQ,az⟩:∃j_:Int,(shr .u64 (IntKind.u64.wrap ((IntKind.u64.wrap ((IntKind.u64.wrap ((IntKind.u64.wrap ((IntKind.u64.wrap ((IntKind.u64.wrap ((Go.bits .or .u64 (ad) (af))*4294967296))+((ac)/4294967296)))-(IntKind.u64.wrap (ae*aa))))*4294967296))+(Go.bits .and .u64 (ac) 4294967295)))-(IntKind.u64.wrap ((IntKind.u64.wrap (ag-1))*aa)))) ji8)=j_:=⟨_,rfl⟩
            replace H:(some (IntKind.u64.wrap ((IntKind.u64.wrap (ae*4294967296))+(IntKind.u64.wrap (ag-1))),aQ))=some (r1,r2):=by first|(rw[az]at H;exact H)|(simp only[az]at H ⊢;exact H)
            have hji30_:((IntKind.u64.wrap ((IntKind.u64.wrap ((IntKind.u64.wrap ((IntKind.u64.wrap ((IntKind.u64.wrap ((IntKind.u64.wrap ((Go.bits .or .u64 (ad) (af))*4294967296))+((ac)/4294967296)))-(IntKind.u64.wrap (ae*aa))))*4294967296))+(Go.bits .and .u64 (ac) 4294967295)))-(IntKind.u64.wrap ((IntKind.u64.wrap (ag-1))*aa))))/2^min ji8.toNat 64)=aQ:=az
            have bf:ji8≤64→((IntKind.u64.wrap ((IntKind.u64.wrap ((IntKind.u64.wrap ((IntKind.u64.wrap ((IntKind.u64.wrap ((IntKind.u64.wrap ((Go.bits .or .u64 (ad) (af))*4294967296))+((ac)/4294967296)))-(IntKind.u64.wrap (ae*aa))))*4294967296))+(Go.bits .and .u64 (ac) 4294967295)))-(IntKind.u64.wrap ((IntKind.u64.wrap (ag-1))*aa))))/2^ji8.toNat)=aQ:=shr_small az
            simp only[Option.some.injEq,Prod.mk.injEq]at H
            obtain⟨rfl,rfl⟩:=H
            go_wp2
            repeat (go_quiet (fail);try go_wp2)
            go_ret2
            exact⟨by first|rfl|(simp;done)|(simp only[←aH,←hji10,←hji12,←ap,←hji15,←hji17,←az]<;>(first|rfl|simp))|(simp[*];done),Y1⟩
           rw[if_neg c29]at H
           exact absurd H Z1
          rw[if_neg c28]at H
          have aY:decide (4294967296≤(IntKind.u64.wrap (aj+((aa)/4294967296))))=false:=decide_eq_false c28
          clear c28
          have H':=Aside0.mk H
          clear H
          go_wp2
          repeat (go_quiet (fail);try go_wp2)
          go_roundg aX
          case measure=>have:=aM.out;have:=HK2.out;have:=aW.out;omega
          case rel=>exact⟨(IntKind.u64.wrap (aj+((aa)/4294967296))),(IntKind.u64.wrap (ag-1)),D6,J0,H',⟨by have:=aM.out;have:=HK2.out;have:=aW.out;omega⟩,Y1⟩
         replace c27:=Bool.eq_false_iff.mpr c27
         subst c27
         have H1:(if 0≤ji8 then(some (IntKind.u64.wrap ((IntKind.u64.wrap (ae*4294967296))+ag),shr .u64 (IntKind.u64.wrap ((IntKind.u64.wrap ((IntKind.u64.wrap ((IntKind.u64.wrap ((IntKind.u64.wrap ((IntKind.u64.wrap ((Go.bits .or .u64 (ad) (af))*4294967296))+((ac)/4294967296)))-(IntKind.u64.wrap (ae*aa))))*4294967296))+(Go.bits .and .u64 (ac) 4294967295)))-(IntKind.u64.wrap (ag*aa)))) ji8)) else(none))=some (r1,r2):=by rw[if_neg (show ¬(false=true) by decide)]at H;exact H
         clear H
         have H:=H1
         clear H1
         by_cases c31:0≤ji8
         ·rw[if_pos c31]at H
          have bj:=eq_true c31
          have bk:decide (0≤ji8)=true:=decide_eq_true c31
          clear c31
          obtain⟨aR,aA⟩:∃j_:Int,(shr .u64 (IntKind.u64.wrap ((IntKind.u64.wrap ((IntKind.u64.wrap ((IntKind.u64.wrap ((IntKind.u64.wrap ((IntKind.u64.wrap ((Go.bits .or .u64 (ad) (af))*4294967296))+((ac)/4294967296)))-(IntKind.u64.wrap (ae*aa))))*4294967296))+(Go.bits .and .u64 (ac) 4294967295)))-(IntKind.u64.wrap (ag*aa)))) ji8)=j_:=⟨_,rfl⟩
          replace H:(some (IntKind.u64.wrap ((IntKind.u64.wrap (ae*4294967296))+ag),aR))=some (r1,r2):=by first|(rw[aA]at H;exact H)|(simp only[aA]at H ⊢;exact H)
          have hji32_:((IntKind.u64.wrap ((IntKind.u64.wrap ((IntKind.u64.wrap ((IntKind.u64.wrap ((IntKind.u64.wrap ((IntKind.u64.wrap ((Go.bits .or .u64 (ad) (af))*4294967296))+((ac)/4294967296)))-(IntKind.u64.wrap (ae*aa))))*4294967296))+(Go.bits .and .u64 (ac) 4294967295)))-(IntKind.u64.wrap (ag*aa))))/2^min ji8.toNat 64)=aR:=aA
          have bg:ji8≤64→((IntKind.u64.wrap ((IntKind.u64.wrap ((IntKind.u64.wrap ((IntKind.u64.wrap ((IntKind.u64.wrap ((IntKind.u64.wrap ((Go.bits .or .u64 (ad) (af))*4294967296))+((ac)/4294967296)))-(IntKind.u64.wrap (ae*aa))))*4294967296))+(Go.bits .and .u64 (ac) 4294967295)))-(IntKind.u64.wrap (ag*aa))))/2^ji8.toNat)=aR:=shr_small aA
          simp only[Option.some.injEq,Prod.mk.injEq]at H
          obtain⟨rfl,rfl⟩:=H
          go_wp2
          repeat (go_quiet (fail);try go_wp2)
          go_ret2
          exact⟨by first|rfl|(simp;done)|(simp only[←aH,←hji10,←hji12,←ap,←hji15,←hji17,←aA]<;>(first|rfl|simp))|(simp[*];done),Y1⟩
         rw[if_neg c31]at H
         exact absurd H Z1
  rw[if_neg c14]at H
  exact absurd H Z1
 rw[if_neg c9]at H
 exact absurd H Z1
def whole_amount_byLimb.l0:Nat→List Int→Int→List Int→Int→Int→Option (List Int×Int)
 | 0,_,_,_,_,_=>none
 | k+1,x0,x1,x6,x7,x8=>if x8≥0 then(if 0≤x8 then(if x8<(x0.length:Int) then((bits_Div64.f k x7 (rd x0 x8) x1).bind fun bt163=>(if x8<(x6.length:Int) then(whole_amount_byLimb.l0 k x0 x1 (x6.set (x8:Int).toNat bt163.1) bt163.2 (wrap64 (x8-1))) else(none))) else(none)) else(none)) else((whole_trimmed.f k x6).bind fun t166=>(some (t166,x7)))
def whole_amount_byLimb.f (k:Nat) (l0:List Int) (a1:Int):Option (List Int×Int):=if 0≤(l0.length:Int) then(if((l0.length:Int):Int).toNat≤35184372088832 then(whole_amount_byLimb.l0 k l0 a1 (List.replicate ((l0.length:Int):Int).toNat 0) 0 (wrap64 ((l0.length:Int)-1))) else(none)) else(none)
theorem whole_amount_byLimb.mono_l:∀k,(∀y0 y1 y2 y3 y4,LeO (whole_amount_byLimb.l0 k y0 y1 y2 y3 y4) (whole_amount_byLimb.l0 (k+1) y0 y1 y2 y3 y4))
 | 0=>fun _ _ _ _ _ r h=>by simp[whole_amount_byLimb.l0]at h
 | k+1=>by
  have ih0:=whole_amount_byLimb.mono_l k
  intro y0 y1 y2 y3 y4
  unfold whole_amount_byLimb.l0
  repeat' first
  | (with_reducible exact ih0 _ _ _ _ _)
  | (with_reducible exact bits_Div64.mono _ _ _ _)
  | (with_reducible exact whole_trimmed.mono _ _)
  | (with_reducible exact LeO.refl _)
  | (with_reducible exact LeO.none _)
  | (with_reducible refine LeO.ite ?_ ?_)
  | (with_reducible refine LeO.bind ?_ (fun _=>?_))
  | exact ih0 _ _ _ _ _
  | exact bits_Div64.mono _ _ _ _
  | exact whole_trimmed.mono _ _
  | exact LeO.none _
  | refine LeO.ite ?_ ?_
  | refine LeO.bind ?_ (fun _=>?_)
theorem whole_amount_byLimb.mono:∀a0 a1 k,LeO (whole_amount_byLimb.f k a0 a1) (whole_amount_byLimb.f (k+1) a0 a1):=by
 intro a0 a1 k
 have ih0:=whole_amount_byLimb.mono_l k
 unfold whole_amount_byLimb.f
 repeat' first
   | (with_reducible exact ih0 _ _ _ _ _)
   | (with_reducible exact bits_Div64.mono _ _ _ _)
   | (with_reducible exact whole_trimmed.mono _ _)
   | (with_reducible exact LeO.refl _)
   | (with_reducible exact LeO.none _)
   | (with_reducible refine LeO.ite ?_ ?_)
   | (with_reducible refine LeO.bind ?_ (fun _=>?_))
   | exact ih0 _ _ _ _ _
   | exact bits_Div64.mono _ _ _ _
   | exact whole_trimmed.mono _ _
   | exact LeO.none _
   | refine LeO.ite ?_ ?_
   | refine LeO.bind ?_ (fun _=>?_)
theorem whole_amount_byLimb.calls (k:Nat) (A0:Option Addr) (c0:Nat) (l0:List Int) (a1:Int) (r1:List Int) (r2:Int) (w:World) (hr0:Kd.C (Kd.int .u64) w A0 l0.length l0) (hc0:l0.length≤c0) (h:whole_amount_byLimb.f k l0 a1=some (r1,r2)) :
  Calls Tryz.prog 169 #[.slice A0 l0.length c0,.int .u64 a1] w fun e w'=>∃v0_:Value,e=.returned (.tuple #[v0_,.int .u64 r2])∧Kd.V (Kd.int .u64) 48 w' w.heap.size (fun k_=>(w.heap.size≤k_)) v0_ r1∧Below w.heap.size w w':=by
 have HR0:=Aside0.mk hr0
 have HC0:=Aside0.mk hc0
 clear hr0 hc0
 have HB:=Aside0.mk (Below.refl w.heap.size w)
 have H:(if 0≤(l0.length:Int) then(if((l0.length:Int):Int).toNat≤35184372088832 then(whole_amount_byLimb.l0 k l0 a1 (List.replicate ((l0.length:Int):Int).toNat 0) 0 (wrap64 ((l0.length:Int)-1))) else(none)) else(none))=some (r1,r2):=h
 clear h
 by_cases c3:0≤(l0.length:Int)
 ·rw [if_pos c3]at H
  have aE:=eq_true c3
  have aF:decide (0≤(l0.length:Int))=true:=decide_eq_true c3
  clear c3
  by_cases c4:((l0.length:Int):Int).toNat≤35184372088832
  ·rw [if_pos c4]at H
   have aG:=eq_true c4
   have aH:decide (((l0.length:Int):Int).toNat≤35184372088832)=true:=decide_eq_true c4
   clear c4
   obtain⟨ap,ad⟩:∃y_:List Int,y_=(List.replicate ((l0.length:Int):Int).toNat 0):=⟨_,rfl⟩
   replace H:(whole_amount_byLimb.l0 k l0 a1 ap 0 (wrap64 ((l0.length:Int)-1)))=some (r1,r2):=by first|(rw[ad];with_reducible exact H)|(have H2_:=(Option.bind_some _ _).symm.trans H;rw[ad];with_reducible exact H2_)|(have H2_:=(Option.bind_some _ _).symm.trans H;with_reducible exact H2_)|with_reducible exact H|(rw[ad];exact H)|exact H
   have ao:=Aside0.mk ad
   clear ad
   have H':=Aside0.mk H
   clear H
   go_enter Tryz.func169,Tryz.ntmps169
   go_wp2_with (first|(refine gd 11 rfl ?_;refine Kd.R_make (Kd.int .u64) _ 48 rfl (N:=11) rfl 25 _ _ rfl (l0.length:Int) rfl rfl Tryz.underlying25 (.int .u64 0) 8 info48 rfl X0 Z0 0 (ok:=fun _=>True) (okp:=fun _=>True) rfl (fun _ hk=>hk) trivial (of_decide_eq_true ‹_›) (Nat.le_trans (Nat.mul_le_mul_right _ (of_decide_eq_true ‹_›:(l0.length:Int).toNat≤35184372088832)) Z0) (Below.refl _ _) (Nat.le_refl _) ?_;intro aq w5 ho6 hb hg_ hnew_;clear hg_ hnew_;(first|rw[←ao.out]at ho6|(simp only[Int.reduceToNat]at ho6;rw[←ao.out]at ho6));have aB:=Aside0.mk (Kd.R_lower (Kd.R_newM (M:=fun k_=>(w.heap.size≤k_)) ho6 (below_size (khu HB.out)) (fun k_ h_=>h_)) (below_size (khu HB.out)));replace HB:=kbs HB hb;clear hb ho6))
   go_loopg [7,8] k (fun kq v7 v8 w'=>∃(ab:List Int) (af:Int) (aa:Int),v7=.int .u64 af∧v8=.int .i64 aa∧Aside0 (whole_amount_byLimb.l0 kq l0 a1 ab af aa=some (r1,r2))∧Aside0 (kq≤k)∧Aside0 (Kd.R (Kd.int .u64) 48 w' w.heap.size (fun k_=>(w.heap.size≤k_)) aq ab)∧Aside0 (Below w.heap.size w w'))
   case atStart=>exact⟨(ap),(0),(wrap64 ((l0.length:Int)-1)),J0,J0,H',⟨Nat.le_refl _⟩,⟨by(with_reducible repeat (first|apply Kd.R_alloc|apply Kd.R_drewN|apply Kd.R_drew));exact Kd.R_mono aB.out (fun _ hk=>hk.1)⟩,⟨khu HB.out⟩⟩
   case round=>
    clear H'
    try clear c1
    try clear p2
    try clear c3
    try clear aE
    try clear aF
    try clear c4
    try clear aG
    try clear aH
    try clear p6
    obtain⟨ab,af,aa,rfl,rfl,HA,HK1,ac,HB⟩:=hrel
    cases gk with
    | zero=>exact absurd HA.out (by simp[whole_amount_byLimb.l0])
    | succ k1=>
     have H:=HA.out
     clear HA
     simp only[whole_amount_byLimb.l0]at H
     by_cases c7:aa≥0
     ·rw [if_pos c7]at H
      have aI:decide (0≤aa)=true:=decide_eq_true c7
      clear c7
      by_cases c8:0≤aa
      ·rw[if_pos c8]at H
       have aS:decide (0≤aa)=true:=decide_eq_true c8
       clear c8
       by_cases c9:aa<(l0.length:Int)
       ·rw[if_pos c9]at H
        have aT:decide (aa<(l0.length:Int))=true:=decide_eq_true c9
        clear c9
        replace H:=Option.bind_eq_some_iff.mp H
        obtain⟨⟨ah,ai⟩,ar,H⟩:=H
        replace H:(if aa<(ab.length:Int) then(whole_amount_byLimb.l0 k1 l0 a1 (ab.set (aa:Int).toNat ah) ai (wrap64 (aa-1))) else(none))=some (r1,r2):=H
        have A10:=Aside0.mk ar
        clear ar
        by_cases c11:aa<(ab.length:Int)
        ·rw[if_pos c11]at H
         have aQ:decide (aa<(ab.length:Int))=true:=decide_eq_true c11
         clear c11
         obtain⟨aj,ae⟩:∃y_:List Int,y_=(ab.set (aa:Int).toNat ah):=⟨_,rfl⟩
         replace H:(whole_amount_byLimb.l0 k1 l0 a1 aj ai (wrap64 (aa-1)))=some (r1,r2):=by first|(rw[ae];with_reducible exact H)|(have H2_:=(Option.bind_some _ _).symm.trans H;rw[ae];with_reducible exact H2_)|(have H2_:=(Option.bind_some _ _).symm.trans H;with_reducible exact H2_)|with_reducible exact H|(rw[ae];exact H)|exact H
         have aC:=Aside0.mk ae
         clear ae
         have H':=Aside0.mk H
         clear H
         have ak:0≤(aa:Int):=of_decide_eq_true ‹_›
         have al:aa<(l0.length:Int):=of_decide_eq_true ‹_›
         obtain⟨aR,aJ,ag⟩:=Kd.at_int HR0.out aa ak al
         cases aJ
         replace ag:=(HB.out.cell (World.block_lt_of_cell? w _ ag)).trans ag
         replace ak:=eq_true ak
         replace al:=eq_true al
         go_wp2_with (first|((with_reducible refine gate_callee (f:=172) rfl ?_);refine kgl (some 28) rfl rfl Tryz.func172 #[.int .u64 af,.int .u64 (rd l0 aa),.int .u64 a1] rfl ?_;(with_reducible refine(bits_Div64.calls k1 af (rd l0 aa) a1 ah ai _ A10.out).mono ?_);rintro e w' ⟨rfl,⟨nd,rfl⟩⟩;refine⟨_,rfl,?_⟩;(try(rw[drewN_self wr];generalize hq_:World.drewN wr _=wr;have n0_:Aside0 (Kd.R (Kd.int .u64) 48 wr w.heap.size (fun k_=>(w.heap.size≤k_)) aq ab):=⟨by rw[←hq_];exact(kru ac.out)⟩;have n1_:Aside0 (Below w.heap.size w wr):=⟨by rw[←hq_];exact(khu HB.out)⟩;clear ac HB hq_;have ac:=n0_;have HB:=n1_;clear n0_ n1_));have p12:0≤(aa:Int):=of_decide_eq_true ‹_›;have q12:(aa:Int)<((ab.length:Int):Int):=of_decide_eq_true ‹_›;obtain⟨am,aK,au,av,aL,aU,aw⟩:=Kd.R_form ac.out Z0;(first|cases au|(injection au with ea_ en_ ec_;(first|subst ea_|(injection ea_ with ea_;subst ea_));subst ec_;clear en_));have aM:=Aside0.mk av;have aV:=Aside0.mk aw;clear av aL aw;obtain⟨aO,aP⟩:=Kd.R_celln 0 ac.out (aa:Int) p12 q12;replace p12:=eq_true p12;replace q12:=eq_true q12;obtain⟨hy13_,hz13_⟩:=Kd.R_celln 0 ac.out (aa:Int) (of_decide_eq_true ‹_›) (of_decide_eq_true ‹_›);have an:=Kd.R_putg ac.out (aa:Int) ah)|((with_reducible refine gate_store (t:=48) (p:=31) rfl ?_);refine store_event (t:=48) (p:=31) (v:=?vo_w14) (w1:=(wr.setCell ⟨am,(aa:Int).toNat,none⟩ (.int .u64 ah))) ?hg ?ho ?hn ?hr ?_;(case ho=>rfl);(case hg=>rfl);(case hn=>rfl);(case hr=>first|(go_simp;done)|(go_simp;rfl));intro w14 hw;have hg:wr.grownBy w14 (some am):=(by rw[hw];exact an.2);have hp_:Kd.R (Kd.int .u64) 48 w14 w.heap.size (fun k_=>(w.heap.size≤k_)) (.slice (some ⟨am,0,none⟩) ab.length aK) aj:=(by rw[hw,aC.out];exact an.1);clear an;replace ac:=Aside0.mk (hp_);replace HB:=Aside0.mk ((by rw[hw];exact below_set (HB.out) aM.out:Below w.heap.size w w14));clear hg hw hp_))
         go_roundg k1
         case measure=>have:=HK1.out;omega
         case rel=>exact⟨(aj),(ai),(wrap64 (aa-1)),J0,J0,H',⟨X2⟩,⟨kru ac.out⟩,⟨khu HB.out⟩⟩
        rw[if_neg c11]at H
        exact absurd H Z1
       rw[if_neg c9]at H
       exact absurd H Z1
      rw[if_neg c8]at H
      exact absurd H Z1
     rw[if_neg c7]at H
     have aI:decide (0≤aa)=false:=decide_eq_false c7
     clear c7
     replace H:=Option.bind_eq_some_iff.mp H
     obtain⟨ax,ay,H⟩:=H
     replace H:(some (ax,af))=some (r1,r2):=H
     have A15:=Aside0.mk ay
     clear ay
     simp only[Option.some.injEq,Prod.mk.injEq]at H
     obtain⟨rfl,rfl⟩:=H
     obtain⟨az,aA,aN⟩:=Kd.R_slice ac.out
     subst aN
     go_wp2_with (first|((with_reducible refine gate_callee (f:=93) rfl ?_);refine kgl (some 33) rfl rfl Tryz.func93 #[.slice az ab.length aA] rfl ?_;(with_reducible refine(whole_trimmed.calls k1 (fun k_=>some k_=(.slice az ab.length aA:Value).ownBlock) _ _ ab ax _ ?side1 A15.out).mono ?_);(case side1=>exact Kd.R_V (Kd.R_tight rfl (ac.out)));rintro e w17 ⟨aW,rfl,ho0,hb⟩;refine⟨_,rfl,?_⟩;have aD:=Aside0.mk (Kd.V_lower (Kd.V_mono (ok':=fun k_=>(w.heap.size≤k_)) ho0 (fun k_ hk_=>Or.elim hk_ (fun hs_=>((ac.out).1 k_ hs_.symm)) (fun hn_=>(Nat.le_trans (below_size (khu HB.out)) hn_)))) (below_size (khu HB.out)));replace ac:=krb ac hb;replace HB:=kbs HB hb;(try clear hb);(try clear hb2);(try clear hk);(try clear hi);(try clear ho0)))
     go_ret2
     exact⟨_,D0,kvu aD.out,khu HB.out⟩
  rw[if_neg c4]at H
  exact absurd H Z1
 rw[if_neg c3]at H
 exact absurd H Z1
def whole_amount_up.l0:Nat→Int→List Int→List Int→Int→Int→Option (List Int)
 | 0,_,_,_,_,_=>none
 | k+1,x1,x5,x12,x13,x14=>if x14<x13 then(if 0≤x14 then(if x14<(x12.length:Int) then(if x14<(x5.length:Int) then(if 0≤x1 then((some (x5.set (x14:Int).toNat (Go.bits .or .u64 (rd x5 x14) (shl .u64 (rd x12 x14) x1)):List Int)).bind fun y174=>(if x1>0 then(if 0≤(IntKind.u64.wrap (64-x1)) then(if 0≤(wrap64 (x14+1)) then(if(wrap64 (x14+1))<(x5.length:Int) then(whole_amount_up.l0 k x1 (y174.set ((wrap64 (x14+1)):Int).toNat (shr .u64 (rd x12 x14) (IntKind.u64.wrap (64-x1)))) x12 x13 (wrap64 (x14+1))) else(none)) else(none)) else(none)) else(whole_amount_up.l0 k x1 y174 x12 x13 (wrap64 (x14+1))))) else(none)) else(none)) else(none)) else(none)) else(some x5)
def whole_amount_up.f (k:Nat) (l0:List Int) (a1:Int):Option (List Int):=if 0≤(wrap64 ((l0.length:Int)+1)) then(if(wrap64 ((l0.length:Int)+1):Int).toNat≤35184372088832 then(whole_amount_up.l0 k a1 (List.replicate (wrap64 ((l0.length:Int)+1):Int).toNat 0) l0 (l0.length:Int) 0) else(none)) else(none)
theorem whole_amount_up.mono_l:∀k,(∀y0 y1 y2 y3 y4,LeO (whole_amount_up.l0 k y0 y1 y2 y3 y4) (whole_amount_up.l0 (k+1) y0 y1 y2 y3 y4))
 | 0=>fun _ _ _ _ _ r h=>by simp[whole_amount_up.l0]at h
 | k+1=>by
  have ih0:=whole_amount_up.mono_l k
  intro y0 y1 y2 y3 y4
  unfold whole_amount_up.l0
  repeat' first
  | (with_reducible exact ih0 _ _ _ _ _)
  | (with_reducible exact LeO.refl _)
  | (with_reducible exact LeO.none _)
  | (with_reducible refine LeO.ite ?_ ?_)
  | (with_reducible refine LeO.bind ?_ (fun _=>?_))
  | exact ih0 _ _ _ _ _
  | exact LeO.none _
  | refine LeO.ite ?_ ?_
  | refine LeO.bind ?_ (fun _=>?_)
theorem whole_amount_up.mono:∀a0 a1 k,LeO (whole_amount_up.f k a0 a1) (whole_amount_up.f (k+1) a0 a1):=by
 intro a0 a1 k
 have ih0:=whole_amount_up.mono_l k
 unfold whole_amount_up.f
 repeat' first
   | (with_reducible exact ih0 _ _ _ _ _)
   | (with_reducible exact LeO.refl _)
   | (with_reducible exact LeO.none _)
   | (with_reducible refine LeO.ite ?_ ?_)
   | (with_reducible refine LeO.bind ?_ (fun _=>?_))
   | exact ih0 _ _ _ _ _
   | exact LeO.none _
   | refine LeO.ite ?_ ?_
   | refine LeO.bind ?_ (fun _=>?_)
theorem whole_amount_up.calls (k:Nat) (A0:Option Addr) (c0:Nat) (l0:List Int) (a1:Int) (r:List Int) (w:World) (hr0:Kd.C (Kd.int .u64) w A0 l0.length l0) (hc0:l0.length≤c0) (h:whole_amount_up.f k l0 a1=some r) :
  Calls Tryz.prog 171 #[.slice A0 l0.length c0,.int .u64 a1] w fun e w'=>∃v0_:Value,e=.returned (v0_)∧Kd.R (Kd.int .u64) 48 w' w.heap.size (fun _=>True) v0_ r∧Below w.heap.size w w':=by
 have HR0:=Aside0.mk hr0
 have HC0:=Aside0.mk hc0
 clear hr0 hc0
 have HB:=Aside0.mk (Below.refl w.heap.size w)
 have H:(if 0≤(wrap64 ((l0.length:Int)+1)) then(if(wrap64 ((l0.length:Int)+1):Int).toNat≤35184372088832 then(whole_amount_up.l0 k a1 (List.replicate (wrap64 ((l0.length:Int)+1):Int).toNat 0) l0 (l0.length:Int) 0) else(none)) else(none))=some r:=h
 clear h
 obtain⟨ji3,hji3⟩:∃j_:Int,(wrap64 ((l0.length:Int)+1))=j_:=⟨_,rfl⟩
 replace H:(if 0≤(ji3) then(if(ji3:Int).toNat≤35184372088832 then(whole_amount_up.l0 k a1 (List.replicate (ji3:Int).toNat 0) l0 (l0.length:Int) 0) else(none)) else(none))=some r:=by first|(rw[hji3]at H;exact H)|(simp only[hji3]at H ⊢;exact H)
 have bn:(IntKind.i64.wrap ((l0.length:Int)+1))=ji3:=(i64_w _).trans hji3
 by_cases c4:0≤(ji3)
 ·rw [if_pos c4]at H
  have aU:=eq_true c4
  have aV:decide (0≤(ji3))=true:=decide_eq_true c4
  clear c4
  by_cases c5:(ji3:Int).toNat≤35184372088832
  ·rw [if_pos c5]at H
   have aW:=eq_true c5
   have aX:decide ((ji3:Int).toNat≤35184372088832)=true:=decide_eq_true c5
   clear c5
   obtain⟨aL,ao⟩:∃y_:List Int,y_=(List.replicate (ji3:Int).toNat 0):=⟨_,rfl⟩
   replace H:(whole_amount_up.l0 k a1 aL l0 (l0.length:Int) 0)=some r:=by first|(rw[ao];with_reducible exact H)|(have H2_:=(Option.bind_some _ _).symm.trans H;rw[ao];with_reducible exact H2_)|(have H2_:=(Option.bind_some _ _).symm.trans H;with_reducible exact H2_)|with_reducible exact H|(rw[ao];exact H)|exact H
   have aI:=Aside0.mk ao
   clear ao
   have H':=Aside0.mk H
   clear H
   go_enter Tryz.func171,Tryz.ntmps171
   go_wp2_with (first|(refine gd 11 rfl ?_;refine Kd.R_make (Kd.int .u64) _ 48 rfl (N:=11) rfl 25 _ _ rfl ji3 rfl rfl Tryz.underlying25 (.int .u64 0) 8 info48 rfl X0 Z0 0 (ok:=fun _=>True) (okp:=fun _=>True) rfl (fun _ hk=>hk) trivial (of_decide_eq_true ‹_›) (Nat.le_trans (Nat.mul_le_mul_right _ (of_decide_eq_true ‹_›:ji3.toNat≤35184372088832)) Z0) (Below.refl _ _) (Nat.le_refl _) ?_;intro aY w6 ho7 hb hg_ hnew_;clear hg_ hnew_;(first|rw[←aI.out]at ho7|(simp only[Int.reduceToNat]at ho7;rw[←aI.out]at ho7));have aP:=Aside0.mk (Kd.R_lower ho7 (below_size (khu HB.out)));replace HB:=kbs HB hb;clear hb ho7))
   go_loopg [14] k (fun kq v14 w'=>∃(ab:List Int) (aa:Int),v14=.int .i64 aa∧Aside0 (whole_amount_up.l0 kq a1 ab l0 (l0.length:Int) aa=some r)∧Aside0 (kq≤k)∧Aside0 (Kd.R (Kd.int .u64) 48 w' w.heap.size (fun _=>True) aY ab)∧Aside0 (Below w.heap.size w w'))
   case atStart=>exact⟨(aL),(0),J0,H',⟨Nat.le_refl _⟩,⟨kru aP.out⟩,⟨khu HB.out⟩⟩
   case round =>
    clear H'
    try clear c1
    try clear p2
    try clear c4
    try clear aU
    try clear aV
    try clear c5
    try clear aW
    try clear aX
    try clear p6
    obtain⟨ab,aa,rfl,HA,HK1,ac,HB⟩:=hrel
    cases gk with
    | zero=>exact absurd HA.out (by simp[whole_amount_up.l0])
    | succ k1 =>
     have H:=HA.out
     clear HA
     simp only[whole_amount_up.l0]at H
     by_cases c8:aa<(l0.length:Int)
     ·rw [if_pos c8]at H
      have aZ:decide (aa<(l0.length:Int))=true:=decide_eq_true c8
      clear c8
      by_cases c9:0≤aa
      ·rw [if_pos c9]at H
       have bz:decide (0≤aa)=true:=decide_eq_true c9
       clear c9
       by_cases c10:aa<(l0.length:Int)
       ·rw [if_pos c10]at H
        have bo:decide (aa<(l0.length:Int))=true:=decide_eq_true c10
        clear c10
        by_cases c11:aa<(ab.length:Int)
        ·rw [if_pos c11]at H
         have bp:decide (aa<(ab.length:Int))=true:=decide_eq_true c11
         clear c11
         by_cases c12:0≤a1
         ·rw [if_pos c12]at H
          have bq:=eq_true c12
          have br:decide (0≤a1)=true:=decide_eq_true c12
          clear c12
          obtain⟨ah,au⟩:∃j_:Int,(shl .u64 (rd l0 aa) a1)=j_:=⟨_,rfl⟩
          replace H:((some (ab.set (aa:Int).toNat (Go.bits .or .u64 (rd ab aa) (ah)):List Int)).bind fun af=>(if a1>0 then(if 0≤(IntKind.u64.wrap (64-a1)) then(if 0≤(wrap64 (aa+1)) then(if(wrap64 (aa+1))<(ab.length:Int) then(whole_amount_up.l0 k1 a1 (af.set ((wrap64 (aa+1)):Int).toNat (shr .u64 (rd l0 aa) (IntKind.u64.wrap (64-a1)))) l0 (l0.length:Int) (wrap64 (aa+1))) else(none)) else(none)) else(none)) else(whole_amount_up.l0 k1 a1 af l0 (l0.length:Int) (wrap64 (aa+1)))))=some r:=by first|(rw[au]at H;exact H)|(simp only[au]at H ⊢;exact H)
          have hji13_:(IntKind.u64.wrap ((rd l0 aa)*2^min a1.toNat 64))=ah:=au
          have bh:a1≤64→(IntKind.u64.wrap ((rd l0 aa)*2^a1.toNat))=ah:=shl_small au
          obtain⟨af,ap⟩:∃y_:List Int,y_=(ab.set (aa:Int).toNat (Go.bits .or .u64 (rd ab aa) (ah))):=⟨_,rfl⟩
          replace H:(if a1>0 then(if 0≤(IntKind.u64.wrap (64-a1)) then(if 0≤(wrap64 (aa+1)) then(if(wrap64 (aa+1))<(ab.length:Int) then(whole_amount_up.l0 k1 a1 (af.set ((wrap64 (aa+1)):Int).toNat (shr .u64 (rd l0 aa) (IntKind.u64.wrap (64-a1)))) l0 (l0.length:Int) (wrap64 (aa+1))) else(none)) else(none)) else(none)) else(whole_amount_up.l0 k1 a1 af l0 (l0.length:Int) (wrap64 (aa+1))))=some r:=by first|(rw[ap];with_reducible exact H)|(have H2_:=(Option.bind_some _ _).symm.trans H;rw[ap];with_reducible exact H2_)|(have H2_:=(Option.bind_some _ _).symm.trans H;with_reducible exact H2_)|with_reducible exact H|(rw[ap];exact H)|exact H
          have aJ:=Aside0.mk ap
          clear ap
          by_cases c15:a1>0
          ·rw [if_pos c15]at H
           have aQ:decide (0<a1)=true:=decide_eq_true c15
           clear c15
           obtain⟨ai,aK⟩:∃j_:Int,(IntKind.u64.wrap (64-a1))=j_:=⟨_,rfl⟩
           replace H:(if 0≤(ai) then(if 0≤(wrap64 (aa+1)) then(if(wrap64 (aa+1))<(ab.length:Int) then(whole_amount_up.l0 k1 a1 (af.set ((wrap64 (aa+1)):Int).toNat (shr .u64 (rd l0 aa) (ai))) l0 (l0.length:Int) (wrap64 (aa+1))) else(none)) else(none)) else(none))=some r:=by first|(rw[aK]at H;exact H)|(simp only[aK]at H ⊢;exact H)
           by_cases c17:0≤(ai)
           ·rw[if_pos c17]at H
            have bu:=eq_true c17
            have bv:decide (0≤(ai))=true:=decide_eq_true c17
            clear c17
            obtain⟨aj,av⟩:∃j_:Int,(shr .u64 (rd l0 aa) (ai))=j_:=⟨_,rfl⟩
            replace H:(if 0≤(wrap64 (aa+1)) then(if(wrap64 (aa+1))<(ab.length:Int) then(whole_amount_up.l0 k1 a1 (af.set ((wrap64 (aa+1)):Int).toNat (aj)) l0 (l0.length:Int) (wrap64 (aa+1))) else(none)) else(none))=some r:=by first|(rw[av]at H;exact H)|(simp only[av]at H ⊢;exact H)
            have hji18_:((rd l0 aa)/2^min (ai).toNat 64)=aj:=av
            have bi:(ai)≤64→((rd l0 aa)/2^(ai).toNat)=aj:=shr_small av
            obtain⟨ad,aw⟩:∃j_:Int,(wrap64 (aa+1))=j_:=⟨_,rfl⟩
            replace H:(if 0≤(ad) then(if(ad)<(ab.length:Int) then(whole_amount_up.l0 k1 a1 (af.set ((ad):Int).toNat (aj)) l0 (l0.length:Int) ad) else(none)) else(none))=some r:=by first|(rw[aw]at H;exact H)|(simp only[aw]at H ⊢;exact H)
            have bj:(IntKind.i64.wrap (aa+1))=ad:=(i64_w _).trans aw
            by_cases c20:0≤(ad)
            ·rw[if_pos c20]at H
             have bw:decide (0≤(ad))=true:=decide_eq_true c20
             clear c20
             by_cases c21:(ad)<(ab.length:Int)
             ·rw[if_pos c21]at H
              have bx:decide ((ad)<(ab.length:Int))=true:=decide_eq_true c21
              clear c21
              obtain⟨aB,aq⟩:∃y_:List Int,y_=(af.set ((ad):Int).toNat (aj)):=⟨_,rfl⟩
              replace H:(whole_amount_up.l0 k1 a1 aB l0 (l0.length:Int) ad)=some r:=by first|(rw[aq];with_reducible exact H)|(have H2_:=(Option.bind_some _ _).symm.trans H;rw[aq];with_reducible exact H2_)|(have H2_:=(Option.bind_some _ _).symm.trans H;with_reducible exact H2_)|with_reducible exact H|(rw[aq];exact H)|exact H
              have aR:=Aside0.mk aq
              clear aq
              have H':=Aside0.mk H
              clear H
              have ak:0≤(aa:Int):=of_decide_eq_true ‹_›
              have al:aa<(l0.length:Int):=of_decide_eq_true ‹_›
              obtain⟨aS,aC,ae⟩:=Kd.at_int HR0.out aa ak al
              cases aC
              replace ae:=(HB.out.cell (World.block_lt_of_cell? w _ ae)).trans ae
              replace ak:=eq_true ak
              replace al:=eq_true al
              obtain⟨bA,aM,bb⟩:=Kd.R_slice ac.out
              subst bb
              have am:0≤(aa:Int):=of_decide_eq_true ‹_›
              have an:aa<(ab.length:Int):=of_decide_eq_true ‹_›
              obtain⟨aT,aD,ar⟩:=Kd.at_int (Kd.R_reads' ac.out).2.2 aa am an
              cases aD
              replace am:=eq_true am
              replace an:=eq_true an
              have p14:0≤(aa:Int):=of_decide_eq_true ‹_›
              have q14:(aa:Int)<((ab.length:Int):Int):=of_decide_eq_true ‹_›
              obtain⟨ag,bc,ax,ay,aE,bd,az⟩:=Kd.R_form ac.out Z0
              (first|cases ax|(injection ax with ea_ en_ ec_;(first|subst ea_|(injection ea_ with ea_;subst ea_));subst ec_;clear en_))
              have aA:=Aside0.mk ay
              have be:=Aside0.mk az
              clear ay aE az
              (first|simp only[add_plain]at ar|skip)
              obtain⟨aN,aO⟩:=Kd.R_celln 0 ac.out (aa:Int) p14 q14
              replace p14:=eq_true p14
              replace q14:=eq_true q14
              have aF:=Kd.R_putg ac.out (aa:Int) (Go.bits .or .u64 (rd ab aa) (ah))
              go_wp2_with (first|((with_reducible refine gate_store (t:=48) (p:=27) rfl ?_);refine store_event (t:=48) (p:=27) (v:=?vo_w25) (w1:=(wr.setCell ⟨ag,(aa:Int).toNat,none⟩ (.int .u64 (Go.bits .or .u64 (rd ab aa) (ah))))) ?hg ?ho ?hn ?hr ?_;(case ho=>rfl);(case hg=>rfl);(case hn=>rfl);(case hr=>first|(go_simp;done)|(go_simp;rfl));intro w25 hw;have hg:wr.grownBy w25 (some ag):=(by rw[hw];exact aF.2);have hp_:Kd.R (Kd.int .u64) 48 w25 w.heap.size (fun _=>True) (.slice (some ⟨ag,0,none⟩) ab.length aM) af:=(by rw[hw,aJ.out];exact aF.1);clear aF;replace ac:=Aside0.mk (hp_);replace HB:=Aside0.mk ((by rw[hw];exact below_set (HB.out) aA.out:Below w.heap.size w w25));clear hg hw hp_;have p22:0≤((ad):Int):=of_decide_eq_true ‹_›;have q22:((ad):Int)<((ab.length:Int):Int):=of_decide_eq_true ‹_›;obtain⟨bk,bl⟩:=Kd.R_celln 0 ac.out ((ad):Int) p22 q22;replace p22:=eq_true p22;replace q22:=eq_true q22;obtain⟨hy26_,hz26_⟩:=Kd.R_celln 0 ac.out ((ad):Int) (of_decide_eq_true ‹_›) (of_decide_eq_true ‹_›);have aG:=Kd.R_putg ac.out ((ad):Int) aj)|((with_reducible refine gate_store (t:=48) (p:=37) rfl ?_);refine store_event (t:=48) (p:=37) (v:=?vo_w27) (w1:=(w25.setCell ⟨ag,((ad):Int).toNat,none⟩ (.int .u64 aj))) ?hg ?ho ?hn ?hr ?_;(case ho=>rfl);(case hg=>rfl);(case hn=>rfl);(case hr=>first|(go_simp;done)|(go_simp;rfl));intro w27 hw;have hg:w25.grownBy w27 (some ag):=(by rw[hw];exact aG.2);have hp_:Kd.R (Kd.int .u64) 48 w27 w.heap.size (fun _=>True) (.slice (some ⟨ag,0,none⟩) ab.length aM) aB:=(by rw[hw,aR.out];exact aG.1);clear aG;replace ac:=Aside0.mk (hp_);replace HB:=Aside0.mk ((by rw[hw];exact below_set (HB.out) aA.out:Below w.heap.size w w27));clear hg hw hp_))
              go_roundg k1
              case measure=>have:=HK1.out;omega
              case rel=>exact⟨(aB),(ad),(by first|rfl|(simp;done)|(simp only[←aw]<;>(first|rfl|simp))|(simp[*];done)),H',⟨X2⟩,⟨kru ac.out⟩,⟨khu HB.out⟩⟩
             rw[if_neg c21]at H
             exact absurd H Z1
            rw[if_neg c20]at H
            exact absurd H Z1
           rw[if_neg c17]at H
           exact absurd H Z1
          rw[if_neg c15]at H
          have aQ:decide (0<a1)=false:=decide_eq_false c15
          clear c15
          have H':=Aside0.mk H
          clear H
          have ak:0≤(aa:Int):=of_decide_eq_true ‹_›
          have al:aa<(l0.length:Int):=of_decide_eq_true ‹_›
          obtain⟨aS,aC,ae⟩:=Kd.at_int HR0.out aa ak al
          cases aC
          replace ae:=(HB.out.cell (World.block_lt_of_cell? w _ ae)).trans ae
          replace ak:=eq_true ak
          replace al:=eq_true al
          obtain⟨bB,bf,bg⟩:=Kd.R_slice ac.out
          subst bg
          have am:0≤(aa:Int):=of_decide_eq_true ‹_›
          have an:aa<(ab.length:Int):=of_decide_eq_true ‹_›
          obtain⟨aT,aD,ar⟩:=Kd.at_int (Kd.R_reads' ac.out).2.2 aa am an
          cases aD
          replace am:=eq_true am
          replace an:=eq_true an
          have p14:0≤(aa:Int):=of_decide_eq_true ‹_›
          have q14:(aa:Int)<((ab.length:Int):Int):=of_decide_eq_true ‹_›
          obtain⟨ag,bc,ax,ay,aE,bd,az⟩:=Kd.R_form ac.out Z0
          (first|cases ax|(injection ax with ea_ en_ ec_;(first|subst ea_|(injection ea_ with ea_;subst ea_));subst ec_;clear en_))
          have aA:=Aside0.mk ay
          have be:=Aside0.mk az
          clear ay aE az
          (first|simp only[add_plain]at ar|skip)
          obtain⟨aN,aO⟩:=Kd.R_celln 0 ac.out (aa:Int) p14 q14
          replace p14:=eq_true p14
          replace q14:=eq_true q14
          have aH:=Kd.R_putg ac.out (aa:Int) (Go.bits .or .u64 (rd ab aa) (ah))
          go_wp2_with (first|((with_reducible refine gate_store (t:=48) (p:=27) rfl ?_);refine store_event (t:=48) (p:=27) (v:=?vo_w30) (w1:=(wr.setCell ⟨ag,(aa:Int).toNat,none⟩ (.int .u64 (Go.bits .or .u64 (rd ab aa) (ah))))) ?hg ?ho ?hn ?hr ?_;(case ho=>rfl);(case hg=>rfl);(case hn=>rfl);(case hr=>first|(go_simp;done)|(go_simp;rfl));intro w30 hw;have hg:wr.grownBy w30 (some ag):=(by rw[hw];exact aH.2);have hp_:Kd.R (Kd.int .u64) 48 w30 w.heap.size (fun _=>True) (.slice (some ⟨ag,0,none⟩) ab.length bf) af:=(by rw[hw,aJ.out];exact aH.1);clear aH;replace ac:=Aside0.mk (hp_);replace HB:=Aside0.mk ((by rw[hw];exact below_set (HB.out) aA.out:Below w.heap.size w w30));clear hg hw hp_))
          go_roundg k1
          case measure=>have:=HK1.out;omega
          case rel=>exact⟨(af),(wrap64 (aa+1)),J0,H',⟨X2⟩,⟨kru ac.out⟩,⟨khu HB.out⟩⟩
         rw[if_neg c12]at H
         exact absurd H Z1
        rw[if_neg c11]at H
        exact absurd H Z1
       rw[if_neg c10]at H
       exact absurd H Z1
      rw[if_neg c9]at H
      exact absurd H Z1
     rw[if_neg c8]at H
     have aZ:decide (aa<(l0.length:Int))=false:=decide_eq_false c8
     clear c8
     obtain rfl:=Option.some.inj H
     go_wp2
     go_ret
     exact⟨_,Z2,kru ac.out,khu HB.out⟩
  rw[if_neg c5]at H
  exact absurd H Z1
 rw[if_neg c4]at H
 exact absurd H Z1
def bits_Mul64.f (a0:Int) (a1:Int):Option (Int×Int):=some (IntKind.u64.wrap ((IntKind.u64.wrap ((IntKind.u64.wrap ((a0/4294967296)*(a1/4294967296)))+((IntKind.u64.wrap ((IntKind.u64.wrap ((a0/4294967296)*(Go.bits .and .u64 a1 4294967295)))+((IntKind.u64.wrap ((Go.bits .and .u64 a0 4294967295)*(Go.bits .and .u64 a1 4294967295)))/4294967296)))/4294967296)))+((IntKind.u64.wrap ((Go.bits .and .u64 (IntKind.u64.wrap ((IntKind.u64.wrap ((a0/4294967296)*(Go.bits .and .u64 a1 4294967295)))+((IntKind.u64.wrap ((Go.bits .and .u64 a0 4294967295)*(Go.bits .and .u64 a1 4294967295)))/4294967296))) 4294967295)+(IntKind.u64.wrap ((Go.bits .and .u64 a0 4294967295)*(a1/4294967296)))))/4294967296)),IntKind.u64.wrap (a0*a1))
theorem bits_Mul64.calls (a0:Int) (a1:Int) (r1:Int) (r2:Int) (w:World) (h:bits_Mul64.f a0 a1=some (r1,r2)) :
  Calls Tryz.prog 173 #[.int .u64 a0,.int .u64 a1] w fun e w'=>e=.returned (.tuple #[.int .u64 r1,.int .u64 r2])∧Drawn0 w w':=by
 have H:(some (IntKind.u64.wrap ((IntKind.u64.wrap ((IntKind.u64.wrap ((a0/4294967296)*(a1/4294967296)))+((IntKind.u64.wrap ((IntKind.u64.wrap ((a0/4294967296)*(Go.bits .and .u64 a1 4294967295)))+((IntKind.u64.wrap ((Go.bits .and .u64 a0 4294967295)*(Go.bits .and .u64 a1 4294967295)))/4294967296)))/4294967296)))+((IntKind.u64.wrap ((Go.bits .and .u64 (IntKind.u64.wrap ((IntKind.u64.wrap ((a0/4294967296)*(Go.bits .and .u64 a1 4294967295)))+((IntKind.u64.wrap ((Go.bits .and .u64 a0 4294967295)*(Go.bits .and .u64 a1 4294967295)))/4294967296))) 4294967295)+(IntKind.u64.wrap ((Go.bits .and .u64 a0 4294967295)*(a1/4294967296)))))/4294967296)),IntKind.u64.wrap (a0*a1)))=some (r1,r2):=h
 clear h
 simp only[Option.some.injEq,Prod.mk.injEq]at H
 obtain⟨rfl,rfl⟩:=H
 go_enter Tryz.func173,Tryz.ntmps173
 go_wp2
 go_ret2
 exact⟨J0,Y1⟩
def whole_subtract.l0:Nat→List Int→List Int→Int→Int→Int→List Int→Int→Int→Option (Bool×List Int)
 | 0,_,_,_,_,_,_,_,_=>none
 | k+1,x0,x1,x2,x7,x8,x14,x15,x16=>if x16<x15 then(if 0≤x16 then(if x16<(x14.length:Int) then((bits_Mul64.f x2 (rd x14 x16)).bind fun bt177=>((bits_Add64.f bt177.2 x7 0).bind fun bt179=>(if x16<(x0.length:Int) then((bits_Sub64.f (rd x0 x16) bt179.1 x8).bind fun bt182=>(whole_subtract.l0 k (x0.set (x16:Int).toNat bt182.1) x1 x2 (IntKind.u64.wrap (bt177.1+bt179.2)) bt182.2 x14 x15 (wrap64 (x16+1)))) else(none)))) else(none)) else(none)) else(if 0≤(x1.length:Int) then(if(x1.length:Int)<(x0.length:Int) then((bits_Sub64.f (rd x0 (x1.length:Int)) x7 x8).bind fun bt186=>(some ((bt186.2==1),(x0.set ((x1.length:Int):Int).toNat bt186.1)))) else(none)) else(none))
def whole_subtract.f (k:Nat) (l0:List Int) (l1:List Int) (a2:Int):Option (Bool×List Int):=whole_subtract.l0 k l0 l1 a2 0 0 l1 (l1.length:Int) 0
theorem whole_subtract.mono_l:∀k,(∀y0 y1 y2 y3 y4 y5 y6 y7,LeO (whole_subtract.l0 k y0 y1 y2 y3 y4 y5 y6 y7) (whole_subtract.l0 (k+1) y0 y1 y2 y3 y4 y5 y6 y7))
 | 0=>fun _ _ _ _ _ _ _ _ r h=>by simp[whole_subtract.l0]at h
 | k+1=>by
  have ih0:=whole_subtract.mono_l k
  intro y0 y1 y2 y3 y4 y5 y6 y7
  unfold whole_subtract.l0
  repeat' first
  | (with_reducible exact ih0 _ _ _ _ _ _ _ _)
  | (with_reducible exact LeO.refl _)
  | (with_reducible exact LeO.none _)
  | (with_reducible refine LeO.ite ?_ ?_)
  | (with_reducible refine LeO.bind ?_ (fun _=>?_))
  | exact ih0 _ _ _ _ _ _ _ _
  | exact LeO.none _
  | refine LeO.ite ?_ ?_
  | refine LeO.bind ?_ (fun _=>?_)
theorem whole_subtract.mono:∀a0 a1 a2 k,LeO (whole_subtract.f k a0 a1 a2) (whole_subtract.f (k+1) a0 a1 a2):=by
 intro a0 a1 a2 k
 have ih0:=whole_subtract.mono_l k
 unfold whole_subtract.f
 repeat' first
   | (with_reducible exact ih0 _ _ _ _ _ _ _ _)
   | (with_reducible exact LeO.refl _)
   | (with_reducible exact LeO.none _)
   | (with_reducible refine LeO.ite ?_ ?_)
   | (with_reducible refine LeO.bind ?_ (fun _=>?_))
   | exact ih0 _ _ _ _ _ _ _ _
   | exact LeO.none _
   | refine LeO.ite ?_ ?_
   | refine LeO.bind ?_ (fun _=>?_)
def whole_add.l0:Nat→List Int→List Int→Int→List Int→Int→Int→Option (List Int)
 | 0,_,_,_,_,_,_=>none
 | k+1,x0,x1,x4,x7,x8,x9=>if x9<x8 then(if 0≤x9 then(if x9<(x7.length:Int) then(if x9<(x0.length:Int) then((bits_Add64.f (rd x0 x9) (rd x7 x9) x4).bind fun bt191=>(whole_add.l0 k (x0.set (x9:Int).toNat bt191.1) x1 bt191.2 x7 x8 (wrap64 (x9+1)))) else(none)) else(none)) else(none)) else(if 0≤(x1.length:Int) then(if(x1.length:Int)<(x0.length:Int) then(some (x0.set ((x1.length:Int):Int).toNat (IntKind.u64.wrap ((rd x0 (x1.length:Int))+x4)))) else(none)) else(none))
def whole_add.f (k:Nat) (l0:List Int) (l1:List Int):Option (List Int):=whole_add.l0 k l0 l1 0 l1 (l1.length:Int) 0
theorem whole_add.mono_l:∀k,(∀y0 y1 y2 y3 y4 y5,LeO (whole_add.l0 k y0 y1 y2 y3 y4 y5) (whole_add.l0 (k+1) y0 y1 y2 y3 y4 y5))
 | 0=>fun _ _ _ _ _ _ r h=>by simp[whole_add.l0]at h
 | k+1=>by
  have ih0:=whole_add.mono_l k
  intro y0 y1 y2 y3 y4 y5
  unfold whole_add.l0
  repeat' first
  | (with_reducible exact ih0 _ _ _ _ _ _)
  | (with_reducible exact LeO.refl _)
  | (with_reducible exact LeO.none _)
  | (with_reducible refine LeO.ite ?_ ?_)
  | (with_reducible refine LeO.bind ?_ (fun _=>?_))
  | exact ih0 _ _ _ _ _ _
  | exact LeO.none _
  | refine LeO.ite ?_ ?_
  | refine LeO.bind ?_ (fun _=>?_)
theorem whole_add.mono:∀a0 a1 k,LeO (whole_add.f k a0 a1) (whole_add.f (k+1) a0 a1):=by
 intro a0 a1 k
 have ih0:=whole_add.mono_l k
 unfold whole_add.f
 repeat' first
   | (with_reducible exact ih0 _ _ _ _ _ _)
   | (with_reducible exact LeO.refl _)
   | (with_reducible exact LeO.none _)
   | (with_reducible refine LeO.ite ?_ ?_)
   | (with_reducible refine LeO.bind ?_ (fun _=>?_))
   | exact ih0 _ _ _ _ _ _
   | exact LeO.none _
   | refine LeO.ite ?_ ?_
   | refine LeO.bind ?_ (fun _=>?_)
def whole_amount_down.l0:Nat→Int→List Int→List Int→Int→Int→Option (List Int)
 | 0,_,_,_,_,_=>none
 | k+1,x1,x5,x11,x12,x13=>if x13<x12 then(if 0≤x13 then(if x13<(x11.length:Int) then(if x13<(x5.length:Int) then(if 0≤x1 then((some (x5.set (x13:Int).toNat (Go.bits .or .u64 (rd x5 x13) (shr .u64 (rd x11 x13) x1)):List Int)).bind fun y201=>(if x1>0 then(if x13>0 then(if 0≤(wrap64 (x13-1)) then(if(wrap64 (x13-1))<(x5.length:Int) then(if 0≤(IntKind.u64.wrap (64-x1)) then(whole_amount_down.l0 k x1 (y201.set ((wrap64 (x13-1)):Int).toNat (Go.bits .or .u64 (rd y201 (wrap64 (x13-1))) (shl .u64 (rd x11 x13) (IntKind.u64.wrap (64-x1))))) x11 x12 (wrap64 (x13+1))) else(none)) else(none)) else(none)) else(whole_amount_down.l0 k x1 y201 x11 x12 (wrap64 (x13+1)))) else(whole_amount_down.l0 k x1 y201 x11 x12 (wrap64 (x13+1))))) else(none)) else(none)) else(none)) else(none)) else((whole_trimmed.f k x5).bind fun t204=>(some t204))
def whole_amount_down.f (k:Nat) (l0:List Int) (a1:Int):Option (List Int):=if 0≤(l0.length:Int) then(if((l0.length:Int):Int).toNat≤35184372088832 then(whole_amount_down.l0 k a1 (List.replicate ((l0.length:Int):Int).toNat 0) l0 (l0.length:Int) 0) else(none)) else(none)
theorem whole_amount_down.mono_l:∀k,(∀y0 y1 y2 y3 y4,LeO (whole_amount_down.l0 k y0 y1 y2 y3 y4) (whole_amount_down.l0 (k+1) y0 y1 y2 y3 y4))
 | 0=>fun _ _ _ _ _ r h=>by simp[whole_amount_down.l0]at h
 | k+1=>by
  have ih0:=whole_amount_down.mono_l k
  intro y0 y1 y2 y3 y4
  unfold whole_amount_down.l0
  repeat' first
  | (with_reducible exact ih0 _ _ _ _ _)
  | (with_reducible exact whole_trimmed.mono _ _)
  | (with_reducible exact LeO.refl _)
  | (with_reducible exact LeO.none _)
  | (with_reducible refine LeO.ite ?_ ?_)
  | (with_reducible refine LeO.bind ?_ (fun _=>?_))
  | exact ih0 _ _ _ _ _
  | exact whole_trimmed.mono _ _
  | exact LeO.none _
  | refine LeO.ite ?_ ?_
  | refine LeO.bind ?_ (fun _=>?_)
theorem whole_amount_down.mono:∀a0 a1 k,LeO (whole_amount_down.f k a0 a1) (whole_amount_down.f (k+1) a0 a1):=by
 intro a0 a1 k
 have ih0:=whole_amount_down.mono_l k
 unfold whole_amount_down.f
 repeat' first
   | (with_reducible exact ih0 _ _ _ _ _)
   | (with_reducible exact whole_trimmed.mono _ _)
   | (with_reducible exact LeO.refl _)
   | (with_reducible exact LeO.none _)
   | (with_reducible refine LeO.ite ?_ ?_)
   | (with_reducible refine LeO.bind ?_ (fun _=>?_))
   | exact ih0 _ _ _ _ _
   | exact whole_trimmed.mono _ _
   | exact LeO.none _
   | refine LeO.ite ?_ ?_
   | refine LeO.bind ?_ (fun _=>?_)
theorem whole_amount_down.calls (k:Nat) (A0:Option Addr) (c0:Nat) (l0:List Int) (a1:Int) (r:List Int) (w:World) (hr0:Kd.C (Kd.int .u64) w A0 l0.length l0) (hc0:l0.length≤c0) (h:whole_amount_down.f k l0 a1=some r) :
  Calls Tryz.prog 176 #[.slice A0 l0.length c0,.int .u64 a1] w fun e w'=>∃v0_:Value,e=.returned (v0_)∧Kd.V (Kd.int .u64) 48 w' w.heap.size (fun k_=>(w.heap.size≤k_)) v0_ r∧Below w.heap.size w w':=by
 have HR0:=Aside0.mk hr0
 have HC0:=Aside0.mk hc0
 clear hr0 hc0
 have HB:=Aside0.mk (Below.refl w.heap.size w)
 have H:(if 0≤(l0.length:Int) then(if((l0.length:Int):Int).toNat≤35184372088832 then(whole_amount_down.l0 k a1 (List.replicate ((l0.length:Int):Int).toNat 0) l0 (l0.length:Int) 0) else(none)) else(none))=some r:=h
 clear h
 by_cases c3:0≤(l0.length:Int)
 ·rw [if_pos c3]at H
  have bi:=eq_true c3
  have bj:decide (0≤(l0.length:Int))=true:=decide_eq_true c3
  clear c3
  by_cases c4:((l0.length:Int):Int).toNat≤35184372088832
  ·rw [if_pos c4]at H
   have bk:=eq_true c4
   have bl:decide (((l0.length:Int):Int).toNat≤35184372088832)=true:=decide_eq_true c4
   clear c4
   obtain⟨aS,ar⟩:∃y_:List Int,y_=(List.replicate ((l0.length:Int):Int).toNat 0):=⟨_,rfl⟩
   replace H:(whole_amount_down.l0 k a1 aS l0 (l0.length:Int) 0)=some r:=by first|(rw[ar];with_reducible exact H)|(have H2_:=(Option.bind_some _ _).symm.trans H;rw[ar];with_reducible exact H2_)|(have H2_:=(Option.bind_some _ _).symm.trans H;with_reducible exact H2_)|with_reducible exact H|(rw[ar];exact H)|exact H
   have aO:=Aside0.mk ar
   clear ar
   have H':=Aside0.mk H
   clear H
   go_enter Tryz.func176,Tryz.ntmps176
   go_wp2_with (first|(refine gd 10 rfl ?_;refine Kd.R_make (Kd.int .u64) _ 48 rfl (N:=10) rfl 25 _ _ rfl (l0.length:Int) rfl rfl Tryz.underlying25 (.int .u64 0) 8 info48 rfl X0 Z0 0 (ok:=fun _=>True) (okp:=fun _=>True) rfl (fun _ hk=>hk) trivial (of_decide_eq_true ‹_›) (Nat.le_trans (Nat.mul_le_mul_right _ (of_decide_eq_true ‹_›:(l0.length:Int).toNat≤35184372088832)) Z0) (Below.refl _ _) (Nat.le_refl _) ?_;intro bn w5 ho6 hb hg_ hnew_;clear hg_ hnew_;(first|rw[←aO.out]at ho6|(simp only[Int.reduceToNat]at ho6;rw[←aO.out]at ho6));have bc:=Aside0.mk (Kd.R_lower (Kd.R_newM (M:=fun k_=>(w.heap.size≤k_)) ho6 (below_size (khu HB.out)) (fun k_ h_=>h_)) (below_size (khu HB.out)));replace HB:=kbs HB hb;clear hb ho6))
   go_loopg [13] k (fun kq v13 w'=>∃(ab:List Int) (aa:Int),v13=.int .i64 aa∧Aside0 (whole_amount_down.l0 kq a1 ab l0 (l0.length:Int) aa=some r)∧Aside0 (kq≤k)∧Aside0 (Kd.R (Kd.int .u64) 48 w' w.heap.size (fun k_=>(w.heap.size≤k_)) bn ab)∧Aside0 (Below w.heap.size w w'))
   case atStart=>exact⟨(aS),(0),J0,H',⟨Nat.le_refl _⟩,⟨by(with_reducible repeat (first|apply Kd.R_alloc|apply Kd.R_drewN|apply Kd.R_drew));exact Kd.R_mono bc.out (fun _ hk=>hk.1)⟩,⟨khu HB.out⟩⟩
   case round =>
    clear H'
    try clear c1
    try clear p2
    try clear c3
    try clear bi
    try clear bj
    try clear c4
    try clear bk
    try clear bl
    obtain⟨ab,aa,rfl,HA,HK1,ac,HB⟩:=hrel
    cases gk with
    | zero=>exact absurd HA.out (by simp[whole_amount_down.l0])
    | succ k1 =>
     have H:=HA.out
     clear HA
     simp only[whole_amount_down.l0]at H
     by_cases c7:aa<(l0.length:Int)
     ·rw [if_pos c7]at H
      have bo:decide (aa<(l0.length:Int))=true:=decide_eq_true c7
      clear c7
      by_cases c8:0≤aa
      ·rw [if_pos c8]at H
       have bM:decide (0≤aa)=true:=decide_eq_true c8
       clear c8
       by_cases c9:aa<(l0.length:Int)
       ·rw [if_pos c9]at H
        have bN:decide (aa<(l0.length:Int))=true:=decide_eq_true c9
        clear c9
        by_cases c10:aa<(ab.length:Int)
        ·rw [if_pos c10]at H
         have bE:decide (aa<(ab.length:Int))=true:=decide_eq_true c10
         clear c10
         by_cases c11:0≤a1
         ·rw [if_pos c11]at H
          have bF:=eq_true c11
          have bG:decide (0≤a1)=true:=decide_eq_true c11
          clear c11
          obtain⟨al,hji12⟩:∃j_:Int,(shr .u64 (rd l0 aa) a1)=j_:=⟨_,rfl⟩
          replace H:((some (ab.set (aa:Int).toNat (Go.bits .or .u64 (rd ab aa) (al)):List Int)).bind fun ae=>(if a1>0 then(if aa>0 then(if 0≤(wrap64 (aa-1)) then(if(wrap64 (aa-1))<(ab.length:Int) then(if 0≤(IntKind.u64.wrap (64-a1)) then(whole_amount_down.l0 k1 a1 (ae.set ((wrap64 (aa-1)):Int).toNat (Go.bits .or .u64 (rd ae (wrap64 (aa-1))) (shl .u64 (rd l0 aa) (IntKind.u64.wrap (64-a1))))) l0 (l0.length:Int) (wrap64 (aa+1))) else(none)) else(none)) else(none)) else(whole_amount_down.l0 k1 a1 ae l0 (l0.length:Int) (wrap64 (aa+1)))) else(whole_amount_down.l0 k1 a1 ae l0 (l0.length:Int) (wrap64 (aa+1)))))=some r:=by first|(rw[hji12]at H;exact H)|(simp only[hji12]at H ⊢;exact H)
          have hji12_:((rd l0 aa)/2^min a1.toNat 64)=al:=hji12
          have bz:a1≤64→((rd l0 aa)/2^a1.toNat)=al:=shr_small hji12
          obtain⟨ae,au⟩:∃y_:List Int,y_=(ab.set (aa:Int).toNat (Go.bits .or .u64 (rd ab aa) (al))):=⟨_,rfl⟩
          replace H:(if a1>0 then(if aa>0 then(if 0≤(wrap64 (aa-1)) then(if(wrap64 (aa-1))<(ab.length:Int) then(if 0≤(IntKind.u64.wrap (64-a1)) then(whole_amount_down.l0 k1 a1 (ae.set ((wrap64 (aa-1)):Int).toNat (Go.bits .or .u64 (rd ae (wrap64 (aa-1))) (shl .u64 (rd l0 aa) (IntKind.u64.wrap (64-a1))))) l0 (l0.length:Int) (wrap64 (aa+1))) else(none)) else(none)) else(none)) else(whole_amount_down.l0 k1 a1 ae l0 (l0.length:Int) (wrap64 (aa+1)))) else(whole_amount_down.l0 k1 a1 ae l0 (l0.length:Int) (wrap64 (aa+1))))=some r:=by first|(rw[au];with_reducible exact H)|(have H2_:=(Option.bind_some _ _).symm.trans H;rw[au];with_reducible exact H2_)|(have H2_:=(Option.bind_some _ _).symm.trans H;with_reducible exact H2_)|with_reducible exact H|(rw[au];exact H)|exact H
          have az:=Aside0.mk au
          clear au
          by_cases c14:a1>0
          ·rw [if_pos c14]at H
           have bd:decide (0<a1)=true:=decide_eq_true c14
           clear c14
           by_cases c15:aa>0
           ·rw [if_pos c15]at H
            have be:decide (0<aa)=true:=decide_eq_true c15
            clear c15
            obtain⟨ad,aE⟩:∃j_:Int,(wrap64 (aa-1))=j_:=⟨_,rfl⟩
            replace H:(if 0≤(ad) then(if(ad)<(ab.length:Int) then(if 0≤(IntKind.u64.wrap (64-a1)) then(whole_amount_down.l0 k1 a1 (ae.set ((ad):Int).toNat (Go.bits .or .u64 (rd ae (ad)) (shl .u64 (rd l0 aa) (IntKind.u64.wrap (64-a1))))) l0 (l0.length:Int) (wrap64 (aa+1))) else(none)) else(none)) else(none))=some r:=by first|(rw[aE]at H;exact H)|(simp only[aE]at H ⊢;exact H)
            have bA:(IntKind.i64.wrap (aa-1))=ad:=(i64_w _).trans aE
            by_cases c17:0≤(ad)
            ·rw[if_pos c17]at H
             have bH:decide (0≤(ad))=true:=decide_eq_true c17
             clear c17
             by_cases c18:(ad)<(ab.length:Int)
             ·rw[if_pos c18]at H
              have bI:decide ((ad)<(ab.length:Int))=true:=decide_eq_true c18
              clear c18
              obtain⟨an,aP⟩:∃j_:Int,(IntKind.u64.wrap (64-a1))=j_:=⟨_,rfl⟩
              replace H:(if 0≤(an) then(whole_amount_down.l0 k1 a1 (ae.set ((ad):Int).toNat (Go.bits .or .u64 (rd ae (ad)) (shl .u64 (rd l0 aa) (an)))) l0 (l0.length:Int) (wrap64 (aa+1))) else(none))=some r:=by first|(rw[aP]at H;exact H)|(simp only[aP]at H ⊢;exact H)
              by_cases c20:0≤(an)
              ·rw[if_pos c20]at H
               have bJ:=eq_true c20
               have bK:decide (0≤(an))=true:=decide_eq_true c20
               clear c20
               obtain⟨aw,aA⟩:∃j_:Int,(shl .u64 (rd l0 aa) (an))=j_:=⟨_,rfl⟩
               replace H:(whole_amount_down.l0 k1 a1 (ae.set ((ad):Int).toNat (Go.bits .or .u64 (rd ae (ad)) (aw))) l0 (l0.length:Int) (wrap64 (aa+1)))=some r:=by first|(rw[aA]at H;exact H)|(simp only[aA]at H ⊢;exact H)
               have hji21_:(IntKind.u64.wrap ((rd l0 aa)*2^min (an).toNat 64))=aw:=aA
               have bB:(an)≤64→(IntKind.u64.wrap ((rd l0 aa)*2^(an).toNat))=aw:=shl_small aA
               obtain⟨aH,av⟩:∃y_:List Int,y_=(ae.set ((ad):Int).toNat (Go.bits .or .u64 (rd ae (ad)) (aw))):=⟨_,rfl⟩
               replace H:(whole_amount_down.l0 k1 a1 aH l0 (l0.length:Int) (wrap64 (aa+1)))=some r:=by first|(rw[av];with_reducible exact H)|(have H2_:=(Option.bind_some _ _).symm.trans H;rw[av];with_reducible exact H2_)|(have H2_:=(Option.bind_some _ _).symm.trans H;with_reducible exact H2_)|with_reducible exact H|(rw[av];exact H)|exact H
               have bf:=Aside0.mk av
               clear av
               have H':=Aside0.mk H
               clear H
               have ah:0≤(aa:Int):=of_decide_eq_true ‹_›
               have ai:aa<(l0.length:Int):=of_decide_eq_true ‹_›
               obtain⟨aQ,aB,af⟩:=Kd.at_int HR0.out aa ah ai
               cases aB
               replace af:=(HB.out.cell (World.block_lt_of_cell? w _ af)).trans af
               replace ah:=eq_true ah
               replace ai:=eq_true ai
               obtain⟨bO,aT,bp⟩:=Kd.R_slice ac.out
               subst bp
               have aj:0≤(aa:Int):=of_decide_eq_true ‹_›
               have ak:aa<(ab.length:Int):=of_decide_eq_true ‹_›
               obtain⟨aR,aC,am⟩:=Kd.at_int (Kd.R_reads' ac.out).2.2 aa aj ak
               cases aC
               replace aj:=eq_true aj
               replace ak:=eq_true ak
               have p13:0≤(aa:Int):=of_decide_eq_true ‹_›
               have q13:(aa:Int)<((ab.length:Int):Int):=of_decide_eq_true ‹_›
               obtain⟨ag,aU,ao,ap,aD,aV,aq⟩:=Kd.R_form ac.out Z0
               (first|cases ao|(injection ao with ea_ en_ ec_;(first|subst ea_|(injection ea_ with ea_;subst ea_));subst ec_;clear en_))
               have ax:=Aside0.mk ap
               have aW:=Aside0.mk aq
               clear ap aD aq
               (first|simp only[add_plain]at am|skip)
               obtain⟨aF,aG⟩:=Kd.R_celln 0 ac.out (aa:Int) p13 q13
               replace p13:=eq_true p13
               replace q13:=eq_true q13
               have aI:=Kd.R_putg ac.out (aa:Int) (Go.bits .or .u64 (rd ab aa) (al))
               go_wp2_with (first|((with_reducible refine gate_store (t:=48) (p:=26) rfl ?_);refine store_event (t:=48) (p:=26) (v:=?vo_w25) (w1:=(wr.setCell ⟨ag,(aa:Int).toNat,none⟩ (.int .u64 (Go.bits .or .u64 (rd ab aa) (al))))) ?hg ?ho ?hn ?hr ?_;(case ho=>rfl);(case hg=>rfl);(case hn=>rfl);(case hr=>first|(go_simp;done)|(go_simp;rfl));intro w25 hw;have hg:wr.grownBy w25 (some ag):=(by rw[hw];exact aI.2);have hp_:Kd.R (Kd.int .u64) 48 w25 w.heap.size (fun k_=>(w.heap.size≤k_)) (.slice (some ⟨ag,0,none⟩) ab.length aT) ae:=(by rw[hw,az.out];exact aI.1);clear aI;replace ac:=Aside0.mk (hp_);replace HB:=Aside0.mk ((by rw[hw];exact below_set (HB.out) ax.out:Below w.heap.size w w25));clear hg hw hp_;have aJ:0≤((ad):Int):=of_decide_eq_true ‹_›;have aK:(ad)<(ae.length:Int):=(by have h_:((ad):Int)<((ab.length:Int):Int):=of_decide_eq_true ‹_›;first|(have e_:=(Kd.R_reads' ac.out).1;omega)|simpa only[az.out,List.length_set] using h_);have bL:(((ad):Int)<((ab.length:Int):Int))=True:=eq_true (of_decide_eq_true ‹_›);obtain⟨bg,bq,ay⟩:=Kd.at_int (Kd.R_reads' ac.out).2.2 (ad) aJ aK;obtain rfl:(⟨ag,0,none⟩:Addr)=bg:=(by injection bq);(first|simp only[add_plain]at ay|simp only[add_at]at ay|simp only[Addr.add,Nat.zero_add]at ay|skip);replace aJ:=eq_true aJ;replace aK:=eq_true aK;have p22:0≤((ad):Int):=of_decide_eq_true ‹_›;have q22:((ad):Int)<((ab.length:Int):Int):=of_decide_eq_true ‹_›;obtain⟨bC,bD⟩:=Kd.R_celln 0 ac.out ((ad):Int) p22 q22;replace p22:=eq_true p22;replace q22:=eq_true q22;obtain⟨hy26_,hz26_⟩:=Kd.R_celln 0 ac.out ((ad):Int) (of_decide_eq_true ‹_›) (of_decide_eq_true ‹_›);have aL:=Kd.R_putg ac.out ((ad):Int) (Go.bits .or .u64 (rd ae (ad)) (aw)))|((with_reducible refine gate_store (t:=48) (p:=43) rfl ?_);refine store_event (t:=48) (p:=43) (v:=?vo_w27) (w1:=(w25.setCell ⟨ag,((ad):Int).toNat,none⟩ (.int .u64 (Go.bits .or .u64 (rd ae (ad)) (aw))))) ?hg ?ho ?hn ?hr ?_;(case ho=>rfl);(case hg=>rfl);(case hn=>rfl);(case hr=>first|(go_simp;done)|(go_simp;rfl));intro w27 hw;have hg:w25.grownBy w27 (some ag):=(by rw[hw];exact aL.2);have hp_:Kd.R (Kd.int .u64) 48 w27 w.heap.size (fun k_=>(w.heap.size≤k_)) (.slice (some ⟨ag,0,none⟩) ab.length aT) aH:=(by rw[hw,bf.out];exact aL.1);clear aL;replace ac:=Aside0.mk (hp_);replace HB:=Aside0.mk ((by rw[hw];exact below_set (HB.out) ax.out:Below w.heap.size w w27));clear hg hw hp_))
               go_roundg k1
               case measure=>have:=HK1.out;omega
               case rel=>exact⟨(aH),(wrap64 (aa+1)),J0,H',⟨X2⟩,⟨kru ac.out⟩,⟨khu HB.out⟩⟩
              rw[if_neg c20]at H
              exact absurd H Z1
             rw[if_neg c18]at H
             exact absurd H Z1
            rw[if_neg c17]at H
            exact absurd H Z1
           rw[if_neg c15]at H
           have be:decide (0<aa)=false:=decide_eq_false c15
           clear c15
           have H':=Aside0.mk H
           clear H
           have ah:0≤(aa:Int):=of_decide_eq_true ‹_›
           have ai:aa<(l0.length:Int):=of_decide_eq_true ‹_›
           obtain⟨aQ,aB,af⟩:=Kd.at_int HR0.out aa ah ai
           cases aB
           replace af:=(HB.out.cell (World.block_lt_of_cell? w _ af)).trans af
           replace ah:=eq_true ah
           replace ai:=eq_true ai
           obtain⟨bP,br,bu⟩:=Kd.R_slice ac.out
           subst bu
           have aj:0≤(aa:Int):=of_decide_eq_true ‹_›
           have ak:aa<(ab.length:Int):=of_decide_eq_true ‹_›
           obtain⟨aR,aC,am⟩:=Kd.at_int (Kd.R_reads' ac.out).2.2 aa aj ak
           cases aC
           replace aj:=eq_true aj
           replace ak:=eq_true ak
           have p13:0≤(aa:Int):=of_decide_eq_true ‹_›
           have q13:(aa:Int)<((ab.length:Int):Int):=of_decide_eq_true ‹_›
           obtain⟨ag,aU,ao,ap,aD,aV,aq⟩:=Kd.R_form ac.out Z0
           (first|cases ao|(injection ao with ea_ en_ ec_;(first|subst ea_|(injection ea_ with ea_;subst ea_));subst ec_;clear en_))
           have ax:=Aside0.mk ap
           have aW:=Aside0.mk aq
           clear ap aD aq
           (first|simp only[add_plain]at am|skip)
           obtain⟨aF,aG⟩:=Kd.R_celln 0 ac.out (aa:Int) p13 q13
           replace p13:=eq_true p13
           replace q13:=eq_true q13
           have aM:=Kd.R_putg ac.out (aa:Int) (Go.bits .or .u64 (rd ab aa) (al))
           go_wp2_with (first|((with_reducible refine gate_store (t:=48) (p:=26) rfl ?_);refine store_event (t:=48) (p:=26) (v:=?vo_w30) (w1:=(wr.setCell ⟨ag,(aa:Int).toNat,none⟩ (.int .u64 (Go.bits .or .u64 (rd ab aa) (al))))) ?hg ?ho ?hn ?hr ?_;(case ho=>rfl);(case hg=>rfl);(case hn=>rfl);(case hr=>first|(go_simp;done)|(go_simp;rfl));intro w30 hw;have hg:wr.grownBy w30 (some ag):=(by rw[hw];exact aM.2);have hp_:Kd.R (Kd.int .u64) 48 w30 w.heap.size (fun k_=>(w.heap.size≤k_)) (.slice (some ⟨ag,0,none⟩) ab.length br) ae:=(by rw[hw,az.out];exact aM.1);clear aM;replace ac:=Aside0.mk (hp_);replace HB:=Aside0.mk ((by rw[hw];exact below_set (HB.out) ax.out:Below w.heap.size w w30));clear hg hw hp_))
           go_roundg k1
           case measure=>have:=HK1.out;omega
           case rel=>exact⟨(ae),(wrap64 (aa+1)),J0,H',⟨X2⟩,⟨kru ac.out⟩,⟨khu HB.out⟩⟩
          rw[if_neg c14]at H
          have bd:decide (0<a1)=false:=decide_eq_false c14
          clear c14
          have H':=Aside0.mk H
          clear H
          have ah:0≤(aa:Int):=of_decide_eq_true ‹_›
          have ai:aa<(l0.length:Int):=of_decide_eq_true ‹_›
          obtain⟨aQ,aB,af⟩:=Kd.at_int HR0.out aa ah ai
          cases aB
          replace af:=(HB.out.cell (World.block_lt_of_cell? w _ af)).trans af
          replace ah:=eq_true ah
          replace ai:=eq_true ai
          obtain⟨bQ,bv,bw⟩:=Kd.R_slice ac.out
          subst bw
          have aj:0≤(aa:Int):=of_decide_eq_true ‹_›
          have ak:aa<(ab.length:Int):=of_decide_eq_true ‹_›
          obtain⟨aR,aC,am⟩:=Kd.at_int (Kd.R_reads' ac.out).2.2 aa aj ak
          cases aC
          replace aj:=eq_true aj
          replace ak:=eq_true ak
          have p13:0≤(aa:Int):=of_decide_eq_true ‹_›
          have q13:(aa:Int)<((ab.length:Int):Int):=of_decide_eq_true ‹_›
          obtain⟨ag,aU,ao,ap,aD,aV,aq⟩:=Kd.R_form ac.out Z0
          (first|cases ao|(injection ao with ea_ en_ ec_;(first|subst ea_|(injection ea_ with ea_;subst ea_));subst ec_;clear en_))
          have ax:=Aside0.mk ap
          have aW:=Aside0.mk aq
          clear ap aD aq
          (first|simp only[add_plain]at am|skip)
          obtain⟨aF,aG⟩:=Kd.R_celln 0 ac.out (aa:Int) p13 q13
          replace p13:=eq_true p13
          replace q13:=eq_true q13
          have aN:=Kd.R_putg ac.out (aa:Int) (Go.bits .or .u64 (rd ab aa) (al))
          go_wp2_with (first|((with_reducible refine gate_store (t:=48) (p:=26) rfl ?_);refine store_event (t:=48) (p:=26) (v:=?vo_w33) (w1:=(wr.setCell ⟨ag,(aa:Int).toNat,none⟩ (.int .u64 (Go.bits .or .u64 (rd ab aa) (al))))) ?hg ?ho ?hn ?hr ?_;(case ho=>rfl);(case hg=>rfl);(case hn=>rfl);(case hr=>first|(go_simp;done)|(go_simp;rfl));intro w33 hw;have hg:wr.grownBy w33 (some ag):=(by rw[hw];exact aN.2);have hp_:Kd.R (Kd.int .u64) 48 w33 w.heap.size (fun k_=>(w.heap.size≤k_)) (.slice (some ⟨ag,0,none⟩) ab.length bv) ae:=(by rw[hw,az.out];exact aN.1);clear aN;replace ac:=Aside0.mk (hp_);replace HB:=Aside0.mk ((by rw[hw];exact below_set (HB.out) ax.out:Below w.heap.size w w33));clear hg hw hp_))
          go_roundg k1
          case measure=>have:=HK1.out;omega
          case rel=>exact⟨(ae),(wrap64 (aa+1)),J0,H',⟨X2⟩,⟨kru ac.out⟩,⟨khu HB.out⟩⟩
         rw[if_neg c11]at H
         exact absurd H Z1
        rw[if_neg c10]at H
        exact absurd H Z1
       rw[if_neg c9]at H
       exact absurd H Z1
      rw[if_neg c8]at H
      exact absurd H Z1
     rw[if_neg c7]at H
     have bo:decide (aa<(l0.length:Int))=false:=decide_eq_false c7
     clear c7
     replace H:=Option.bind_eq_some_iff.mp H
     obtain⟨aX,aY,H⟩:=H
     replace H:(some aX)=some r:=H
     have A34:=Aside0.mk aY
     clear aY
     obtain rfl:=Option.some.inj H
     obtain⟨aZ,bb,bx⟩:=Kd.R_slice ac.out
     subst bx
     go_wp2_with (first|((with_reducible refine gate_callee (f:=93) rfl ?_);refine kgl (some 46) rfl rfl Tryz.func93 #[.slice aZ ab.length bb] rfl ?_;(with_reducible refine(whole_trimmed.calls k1 (fun k_=>some k_=(.slice aZ ab.length bb:Value).ownBlock) _ _ ab aX _ ?side1 A34.out).mono ?_);(case side1=>exact Kd.R_V (Kd.R_tight rfl (ac.out)));rintro e w36 ⟨bR,rfl,ho0,hb⟩;refine⟨_,rfl,?_⟩;have bh:=Aside0.mk (Kd.V_lower (Kd.V_mono (ok':=fun k_=>(w.heap.size≤k_)) ho0 (fun k_ hk_=>Or.elim hk_ (fun hs_=>((ac.out).1 k_ hs_.symm)) (fun hn_=>(Nat.le_trans (below_size (khu HB.out)) hn_)))) (below_size (khu HB.out)));replace ac:=krb ac hb;replace HB:=kbs HB hb;(try clear hb);(try clear hb2);(try clear hk);(try clear hi);(try clear ho0)))
     go_ret
     exact⟨_,D0,kvu bh.out,khu HB.out⟩
  rw[if_neg c4]at H
  exact absurd H Z1
 rw[if_neg c3]at H
 exact absurd H Z1
end Go.Proofs.YtncomlmhagaajaaGreat.PBo
namespace Go.Proofs.YtncomlmhagaajaaGreat.Mine
open Go.RowKit Go.Proofs.YtncomlmhagaajaaGreatW.PrintWords Go.Proofs.YtncomlmhagaajaaGreatW.PrintLast Go.Proofs.YtncomlmhagaajaaGreatW.PrintMore
open Go.Proofs.YtncomlmhagaajaaGreat.PBo
def Seg (W:World) (g:Nat) (pre:List Value) (xs:List Int) (post:List Value):Prop:=W.heap[g]? = some (.cells (pre++xs.map (Value.int .u64)++post).toArray 48 (0,0))
theorem Seg.drewN {W:World} {g:Nat} {pre post:List Value} {xs:List Int} (h:Seg W g pre xs post) (n:Nat):Seg (W.drewN n) g pre xs post:=blk_drewN h n
theorem Seg.cell {W:World} {g:Nat} {pre post:List Value} {xs:List Int} (h:Seg W g pre xs post) (i:Int) (_h0:0≤i) (h1:i<xs.length):W.cell? ⟨g,pre.length+i.toNat,none⟩=some (.int .u64 (rd xs i)):=by
 rw[blk_cell h]
 have hi:i.toNat<xs.length:=by omega
 simp only[List.getElem?_toArray]
 rw[List.append_assoc,List.getElem?_append_right Z0,Nat.add_sub_cancel_left,List.getElem?_append_left (by simpa using hi),List.getElem?_map,List.getElem?_eq_getElem hi]
 simp[rd,List.getD_eq_getElem?_getD,List.getElem?_eq_getElem hi]
theorem Seg.cell0 {W:World} {g:Nat} {post:List Value} {xs:List Int} (h:Seg W g [] xs post) (i:Int) (h0:0≤i) (h1:i<xs.length):W.cell? ⟨g,i.toNat,none⟩=some (.int .u64 (rd xs i)):=by
 have:=h.cell i h0 h1
 simpa using this
theorem Seg.free {W:World} {g:Nat} {pre post:List Value} {xs:List Int} (h:Seg W g pre xs post) (j:Nat):W.frozen? ⟨g,j,none⟩=false:=blk_frozen h j
theorem Seg.put {W:World} {g:Nat} {pre post:List Value} {xs:List Int} (h:Seg W g pre xs post) (i:Int) (v:Int) (_h0:0≤i) (h1:i<xs.length):Seg (W.setCell ⟨g,pre.length+i.toNat,none⟩ (.int .u64 v)) g pre (xs.set i.toNat v) post:=by
 refine blk_put h _ _ ?_
 have hi:i.toNat<xs.length:=by omega
 simp only[List.setIfInBounds_toArray]
 congr 1
 rw[List.append_assoc,List.append_assoc,List.set_append_right _ _ Z1,Nat.add_sub_cancel_left,List.set_append_left _ _ (by simpa using hi),List.map_set]
theorem Seg.put0 {W:World} {g:Nat} {post:List Value} {xs:List Int} (h:Seg W g [] xs post) (i:Int) (v:Int) (h0:0≤i) (h1:i<xs.length):Seg (W.setCell ⟨g,i.toNat,none⟩ (.int .u64 v)) g [] (xs.set i.toNat v) post:=by
 have:=h.put i v h0 h1
 simpa using this
theorem Seg.far {W:World} {g:Nat} {pre post:List Value} {xs:List Int} (h:Seg W g pre xs post) {p:Addr} (hp:g≠p.block) (u:Value):Seg (W.setCell p u) g pre xs post:=blk_far h hp u
theorem Seg.lt {W:World} {g:Nat} {pre post:List Value} {xs:List Int} (h:Seg W g pre xs post):g<W.heap.size:=blk_lt h
theorem Seg.keep {W W':World} {g g':Nat} {pre post:List Value} {xs:List Int} (h:Seg W g pre xs post) (hk:KeepBut W W' g' none) (hne:g≠g'):Seg W' g pre xs post:=hk.blk h hne Z1
theorem Seg.below {W W':World} {g:Nat} {pre post:List Value} {xs:List Int} (h:Seg W g pre xs post) (hb:Below W.heap.size W W'):Seg W' g pre xs post:=blk_below h hb
theorem Seg.alloc {W:World} {g:Nat} {pre post:List Value} {xs:List Int} (h:Seg W g pre xs post) (o:Obj):Seg (W.alloc o) g pre xs post:=blk_alloc h o
theorem Seg.C {W:World} {g:Nat} {pre post:List Value} {xs:List Int} (h:Seg W g pre xs post) (hm:xs.length≤9223372036854775807):Kd.C (Kd.int .u64) W (some ⟨g,pre.length,none⟩) xs.length xs:=by
 refine⟨rfl,hm,fun _=>⟨_,rfl,fun j p hj=>⟨[.int .u64 p],rfl,rfl,fun i u hu=>?_⟩⟩⟩
 obtain⟨hjl,hjp⟩:=List.getElem?_eq_some_iff.1 hj
 have hi:i=0:=by
  have:=(List.getElem?_eq_some_iff.1 hu).1
  simpa using this
 subst hi
 have hu':Value.int .u64 p=u:=by simpa using hu
 subst hu'
 have hc:=h.cell (j:Int) Z0 Z0
 rw[show j*(Kd.int IntKind.u64).sz+0=j from by show j*1+0=j;omega]
 have ha:(⟨g,pre.length,none⟩:Addr).add j=⟨g,pre.length+(j:Int).toNat,none⟩:=by
  unfold Addr.add
  split<;>simp_all
 rw[ha,hc]
 simp[rd,List.getD_eq_getElem?_getD,hj]
theorem Seg.V {W:World} {g base c:Nat} {pre post:List Value} {xs:List Int} {ok:Nat→Prop} (h:Seg W g pre xs post) (hok:ok g) (hl:xs.length≤c) (hm:xs.length≤9223372036854775807):Kd.V (Kd.int .u64) 48 W base ok (.slice (some ⟨g,pre.length,none⟩) xs.length c) xs:=
 ⟨_,c,rfl,hl,fun W' hW=>Seg.C (pre:=pre) (post:=post) (show Seg W' g pre xs post from(hW g hok h.lt).trans h) hm⟩
theorem Seg.of_R {W:World} {base:Nat} {ok:Nat→Prop} {v:Value} {xs:List Int} (h:Kd.R (Kd.int .u64) 48 W base ok v xs) (hp:0<xs.length) :
  ∃g cap post,v=.slice (some ⟨g,0,none⟩) xs.length cap∧base≤g∧xs.length≤cap∧cap≤maxLen∧Seg W g [] xs post:=by
 have ho:=Kd.own_of_R (enc:=Value.int .u64) (h1:=fun _=>rfl) h
 rcases ho.2 with⟨_,h0⟩|⟨g,cap,cur,rfl,hg,hh,hl,hc,hs,ht⟩
 ·omega
 refine⟨g,cap,cur.toList.drop xs.length,rfl,hg,hl,hc,?_⟩
 unfold Seg
 rw[hh]
 congr 2
 have e:(encs (Value.int .u64) xs)=xs.map (Value.int .u64):=rfl
 rw[e]at ht
 rw[Nat.mul_one]at ht
 rw[List.nil_append,←ht,List.take_append_drop]
theorem KeepBut.drewN {w W:World} {g:Nat} (h:KeepBut w W g none) (n:Nat):KeepBut w (W.drewN n) g none:=h
theorem subtract_seg (k:Nat) (g c:Nat) (pre post:List Value) (xs:List Int) (A1:Option Addr) (c1:Nat) (l1:List Int) (a2:Int) (r1:Bool) (r2:List Int) (w:World) (hb:Seg w g pre xs post)
  (hv:∀W',KeepBut w W' g none→Kd.C (Kd.int .u64) W' A1 l1.length l1) (h:whole_subtract.f k xs l1 a2=some (r1,r2)) :
  Calls Tryz.prog 174 #[.slice (some ⟨g,pre.length,none⟩) xs.length c,.slice A1 l1.length c1,.int .u64 a2] w fun e w'=>e=.returned (.bool r1)∧r2.length=xs.length∧Seg w' g pre r2 post∧KeepBut w w' g none∧Below g w w':=by
 have HS:=Aside0.mk hb
 have HV:=Aside0.mk hv
 have HK:=Aside0.mk (KeepBut.refl w g none)
 have HW:=Aside0.mk (Below.refl g w)
 clear hb hv
 have H':=Aside0.mk (show whole_subtract.l0 k xs l1 a2 0 0 l1 (l1.length:Int) 0=some (r1,r2) from h)
 clear h
 go_enter Tryz.func174,Tryz.ntmps174
 go_wp2
 go_loopg [7,8,16] k (fun kq v7 v8 v16 w'=>∃(y:List Int) (x7 x8 x16:Int),v7=.int .u64 x7∧v8=.int .u64 x8∧v16=.int .i64 x16∧Aside0 (whole_subtract.l0 kq y l1 a2 x7 x8 l1 (l1.length:Int) x16=some (r1,r2))∧Aside0 (kq≤k)∧Aside0 (y.length=xs.length)∧Aside0 (Seg w' g pre y post)∧Aside0 (KeepBut w w' g none)∧Aside0 (Below g w w'))
 case atStart=>exact⟨xs,0,0,0,rfl,rfl,rfl,H',⟨Nat.le_refl _⟩,⟨rfl⟩,HS,HK,HW⟩
 case round=>
  clear H' HS HK HW
  obtain⟨y,x7,x8,x16,rfl,rfl,rfl,HA,HK1,HL,HS,HK,HW⟩:=hrel
  cases gk with
  | zero=>exact absurd HA.out (by simp[whole_subtract.l0])
  | succ k1=>
   have H:=HA.out
   clear HA
   simp only[whole_subtract.l0]at H
   by_cases c4:x16<(l1.length:Int)
   ·rw[if_pos c4]at H
    by_cases c5:0≤x16
    ·rw[if_pos c5,if_pos c4]at H
     obtain⟨⟨aa,ac⟩,A7,H⟩:=Option.bind_eq_some_iff.mp H
     obtain⟨⟨ah,ae⟩,A8,H⟩:=Option.bind_eq_some_iff.mp H
     by_cases c9:x16<(y.length:Int)
     ·simp only[if_pos c9]at H
      obtain⟨⟨ab,af⟩,A10,H⟩:=Option.bind_eq_some_iff.mp H
      simp only at A8 A10 H
      have cw:x16+1≤9223372036854775807:=by have:=(HV.out _ HK.out).2.1;omega
      have B7:=Aside0.mk A7
      rw[show wrap64 (x16+1)=x16+1 from IntWalk.wrap64_in _ ⟨Z0,cw⟩]at H
      have H2:=Aside0.mk H
      have hx8:=bits_Add64.run A8
      have ai:=bits_Sub64.run A10
      clear A7 A8 A10 H
      obtain⟨ad,rfl,hx⟩:=Kd.at_int (HV.out _ HK.out) x16 c5 c4
      have hu:=HS.out.cell x16 c5 c9
      have hf:=HS.out.free (pre.length+x16.toNat)
      have hp:=Aside0.mk (HS.out.put x16 ab c5 c9)
      have c9':x16<(xs.length:Int):=by rw[←HL.out];exact c9
      go_wp2_with (first|(go_at_call 173;refine(bits_Mul64.calls _ _ aa ac _ B7.out).mono ?_;rintro e w' ⟨rfl,⟨nd,rfl⟩⟩))
      go_roundg k1
      case measure=>have:=HK1.out;omega
      case rel=>exact⟨y.set x16.toNat ab,IntKind.u64.wrap (aa+ae),af,x16+1,rfl,rfl,rfl,H2,⟨X2⟩,⟨by rw[List.length_set];exact HL.out⟩,hp,⟨HK.out.set_ _ _⟩,⟨(pw_below_drewN HW.out _).setCell (Nat.le_refl _) _⟩⟩
     simp only[if_neg c9]at H;exact absurd H Z1
    rw[if_neg c5]at H;exact absurd H Z1
   rw[if_neg c4]at H
   by_cases c18:(l1.length:Int)<(y.length:Int)
   ·rw[if_pos Z0,if_pos c18]at H
    obtain⟨⟨ag,aj⟩,A19,H⟩:=Option.bind_eq_some_iff.mp H
    simp only[Option.some.injEq,Prod.mk.injEq]at H
    obtain⟨rfl,rfl⟩:=H
    have ak:=bits_Sub64.run A19
    clear A19
    have hu:=HS.out.cell (l1.length:Int) Z0 c18
    have hf:=HS.out.free (pre.length+l1.length)
    have hp:=Aside0.mk (HS.out.put (l1.length:Int) ag Z0 c18)
    simp only[Int.toNat_natCast]at hu hp
    have c18':l1.length<xs.length:=by have:=HL.out;omega
    go_wp2
    go_ret
    exact⟨rfl,by simpa using HL.out,by simpa using hp.out,HK.out.set_ _ _,HW.out.setCell (Nat.le_refl _) _⟩
   rw[if_pos Z0,if_neg c18]at H;exact absurd H Z1
theorem add_seg (k:Nat) (g c:Nat) (pre post:List Value) (xs:List Int) (A1:Option Addr) (c1:Nat) (l1:List Int) (r2:List Int) (w:World) (hb:Seg w g pre xs post)
  (hv:∀W',KeepBut w W' g none→Kd.C (Kd.int .u64) W' A1 l1.length l1) (h:whole_add.f k xs l1=some r2) :
  Calls Tryz.prog 175 #[.slice (some ⟨g,pre.length,none⟩) xs.length c,.slice A1 l1.length c1] w fun e w'=>e=.returned (.tuple #[])∧r2.length=xs.length∧Seg w' g pre r2 post∧KeepBut w w' g none∧Below g w w':=by
 have HS:=Aside0.mk hb
 have HV:=Aside0.mk hv
 have HK:=Aside0.mk (KeepBut.refl w g none)
 have HW:=Aside0.mk (Below.refl g w)
 clear hb hv
 have H':=Aside0.mk (show whole_add.l0 k xs l1 0 l1 (l1.length:Int) 0=some r2 from h)
 clear h
 go_enter Tryz.func175,Tryz.ntmps175
 go_wp2
 go_loopg [4,9] k (fun kq v4 v9 w'=>∃(y:List Int) (x4 x9:Int),v4=.int .u64 x4∧v9=.int .i64 x9∧Aside0 (whole_add.l0 kq y l1 x4 l1 (l1.length:Int) x9=some r2)∧Aside0 (kq≤k)∧Aside0 (y.length=xs.length)∧Aside0 (Seg w' g pre y post)∧Aside0 (KeepBut w w' g none)∧Aside0 (Below g w w'))
 case atStart=>exact⟨xs,0,0,rfl,rfl,H',⟨Nat.le_refl _⟩,⟨rfl⟩,HS,HK,HW⟩
 case round=>
  clear H' HS HK HW
  obtain⟨y,x4,x9,rfl,rfl,HA,HK1,HL,HS,HK,HW⟩:=hrel
  cases gk with
  | zero=>exact absurd HA.out (by simp[whole_add.l0])
  | succ k1=>
   have H:=HA.out
   clear HA
   simp only[whole_add.l0]at H
   by_cases c4:x9<(l1.length:Int)
   ·rw[if_pos c4]at H
    by_cases c5:0≤x9
    ·rw[if_pos c5,if_pos c4]at H
     by_cases c9:x9<(y.length:Int)
     ·simp only[if_pos c9]at H
      obtain⟨⟨aa,ab⟩,A10,H⟩:=Option.bind_eq_some_iff.mp H
      simp only at A10 H
      have cw:x9+1≤9223372036854775807:=by have:=(HV.out _ HK.out).2.1;omega
      rw[show wrap64 (x9+1)=x9+1 from IntWalk.wrap64_in _ ⟨Z0,cw⟩]at H
      have H2:=Aside0.mk H
      have ac:=bits_Add64.run A10
      clear A10 H
      obtain⟨ad,rfl,hx⟩:=Kd.at_int (HV.out _ HK.out) x9 c5 c4
      have hu:=HS.out.cell x9 c5 c9
      have hf:=HS.out.free (pre.length+x9.toNat)
      have hp:=Aside0.mk (HS.out.put x9 aa c5 c9)
      have c9':x9<(xs.length:Int):=by rw[←HL.out];exact c9
      go_wp2
      go_roundg k1
      case measure=>have:=HK1.out;omega
      case rel=>exact⟨y.set x9.toNat aa,ab,x9+1,rfl,rfl,H2,⟨X2⟩,⟨by rw[List.length_set];exact HL.out⟩,hp,⟨HK.out.set_ _ _⟩,⟨HW.out.setCell (Nat.le_refl _) _⟩⟩
     simp only[if_neg c9]at H;exact absurd H Z1
    rw[if_neg c5]at H;exact absurd H Z1
   rw[if_neg c4]at H
   by_cases c18:(l1.length:Int)<(y.length:Int)
   ·rw[if_pos Z0,if_pos c18]at H
    simp only[Option.some.injEq]at H
    subst H
    have hu:=HS.out.cell (l1.length:Int) Z0 c18
    have hf:=HS.out.free (pre.length+l1.length)
    have hp:=Aside0.mk (HS.out.put (l1.length:Int) (IntKind.u64.wrap ((rd y (l1.length:Int))+x4)) Z0 c18)
    simp only[Int.toNat_natCast]at hu hp
    have c18':l1.length<xs.length:=by have:=HL.out;omega
    go_wp2
    go_end0
    exact⟨rfl,by simpa using HL.out,by simpa using hp.out,HK.out.set_ _ _,HW.out.setCell (Nat.le_refl _) _⟩
   rw[if_pos Z0,if_neg c18]at H;exact absurd H Z1
def quo_fix:Nat→Int→Int→Int→Int→Int→Option Int
 | 0,_,_,_,_,_=>none
 | k+1,guess,rest,vn2,vn1,un2=>(bits_Mul64.f guess vn2).bind fun hl=>if hl.1<rest then some guess else if hl.1=rest∧hl.2≤un2 then some guess else
   if IntKind.u64.wrap (rest+vn1)<rest then some (IntKind.u64.wrap (guess-1)) else quo_fix k (IntKind.u64.wrap (guess-1)) (IntKind.u64.wrap (rest+vn1)) vn2 vn1 un2
theorem quo_fix.mono:∀k g r a b c,LeO (quo_fix k g r a b c) (quo_fix (k+1) g r a b c)
 | 0=>fun _ _ _ _ _ r h=>by simp[quo_fix]at h
 | k+1=>by
  intro g r a b c
  have ih:=quo_fix.mono k
  unfold quo_fix
  repeat' first
   | (with_reducible exact ih _ _ _ _ _)
   | (with_reducible exact LeO.refl _)
   | (with_reducible refine LeO.ite ?_ ?_)
   | (with_reducible refine LeO.bind ?_ (fun _=>?_))
   | exact ih _ _ _ _ _
def quo_guess (k:Nat) (un un1 un2 vn1 vn2:Int):Option Int:=if un<vn1 then(bits_Div64.f k un un1 vn1).bind fun qr=>quo_fix k qr.1 qr.2 vn2 vn1 un2 else some 18446744073709551615
theorem quo_guess.mono (a b c d e:Int) (k:Nat):LeO (quo_guess k a b c d e) (quo_guess (k+1) a b c d e):=by
 unfold quo_guess
 repeat' first
   | (with_reducible exact quo_fix.mono _ _ _ _ _ _)
   | (with_reducible exact bits_Div64.mono _ _ _ _)
   | (with_reducible exact LeO.refl _)
   | (with_reducible refine LeO.ite ?_ ?_)
   | (with_reducible refine LeO.bind ?_ (fun _=>?_))
def splice (u:List Int) (j:Nat) (s:List Int):List Int:=u.take j++s++u.drop (j+s.length)
def quo_go:Nat→List Int→List Int→List Int→Int→Option (List Int×List Int)
 | 0,_,_,_,_=>none
 | k+1,u,v,q,j=>if j<0 then some (u,q) else if j+(v.length:Int)<(u.length:Int)∧j<(q.length:Int)∧2≤v.length then
   (quo_guess k (rd u (j+(v.length:Int))) (rd u (j+(v.length:Int)-1)) (rd u (j+(v.length:Int)-2)) (rd v ((v.length:Int)-1)) (rd v ((v.length:Int)-2))).bind fun g=>
   (whole_subtract.f k ((u.drop j.toNat).take (v.length+1)) v g).bind fun bs=>if bs.1=true then
    (whole_add.f k bs.2 v).bind fun s=>quo_go k (splice u j.toNat s) v (q.set j.toNat (IntKind.u64.wrap (g-1))) (j-1)
   else quo_go k (splice u j.toNat bs.2) v (q.set j.toNat g) (j-1)
  else none
theorem quo_go.mono:∀k u v q j,LeO (quo_go k u v q j) (quo_go (k+1) u v q j)
 | 0=>fun _ _ _ _ r h=>by simp[quo_go]at h
 | k+1=>by
  intro u v q j
  have ih:=quo_go.mono k
  unfold quo_go
  repeat' first
   | (with_reducible exact ih _ _ _ _)
   | (with_reducible exact quo_guess.mono _ _ _ _ _ _)
   | (with_reducible exact whole_subtract.mono _ _ _ _)
   | (with_reducible exact whole_add.mono _ _ _)
   | (with_reducible exact LeO.refl _)
   | (with_reducible exact LeO.none _)
   | (with_reducible refine LeO.ite ?_ ?_)
   | (with_reducible refine LeO.bind ?_ (fun _=>?_))
def whole_amount_quo.f (k:Nat) (a b:List Int):Option (List Int×List Int):=
 (whole_amount_cmp.f k a b).bind fun c=>if c<0 then some ([],a) else if b.length=1 then
  (whole_amount_byLimb.f k a (rd b 0)).bind fun qr=>(whole_trimmed.f k [qr.2]).bind fun r=>some (qr.1,r)
 else if b.length<a.length+1∧2≤b.length∧a.length<17592186044416 then
  (bits_LeadingZeros64.f (rd b ((b.length:Int)-1))).bind fun s=>if 0≤s∧s≤64 then(whole_amount_up.f k b s).bind fun v=>(whole_amount_up.f k a s).bind fun u=>
  if b.length≤v.length∧b.length≤u.length then
  (quo_go k u (v.take b.length) (List.replicate (a.length-b.length+1) 0) ((a.length:Int)-(b.length:Int))).bind fun uq=>
  (whole_trimmed.f k uq.2).bind fun q=>(whole_trimmed.f k (uq.1.take b.length)).bind fun r0=>(whole_amount_down.f k r0 s).bind fun r=>some (q,r)
  else none else none
 else none
theorem whole_amount_quo.mono:∀a b k,LeO (whole_amount_quo.f k a b) (whole_amount_quo.f (k+1) a b):=by
 intro a b k
 unfold whole_amount_quo.f
 repeat' first
   | (with_reducible exact whole_amount_cmp.mono _ _ _)
   | (with_reducible exact whole_amount_byLimb.mono _ _ _)
   | (with_reducible exact whole_trimmed.mono _ _)
   | (with_reducible exact whole_amount_up.mono _ _ _)
   | (with_reducible exact whole_amount_down.mono _ _ _)
   | (with_reducible exact quo_go.mono _ _ _ _ _)
   | (with_reducible exact LeO.refl _)
   | (with_reducible exact LeO.none _)
   | (with_reducible refine LeO.ite ?_ ?_)
   | (with_reducible refine LeO.bind ?_ (fun _=>?_))
theorem minfo59q:(Tryz.prog.info? 48).map (fun i=>(i.zero,i.size,i.bytes))=some (some (.int .u64 0),1,8):=by kernel_rfl
set_option maxHeartbeats 4000000 in
theorem quo_less (k:Nat) (P0_:Nat→Prop) (A0:Option Addr) (c0:Nat) (l0:List Int) (A1:Option Addr) (c1:Nat) (l1:List Int) (w:World) (hs0:Kd.V (Kd.int .u64) 48 w w.heap.size (fun k_=>P0_ k_) (.slice A0 l0.length c0) l0) (hr1:Kd.C (Kd.int .u64) w A1 l1.length l1) (hc1:l1.length≤c1) (c:Int)
  (hc:whole_amount_cmp.f k l0 l1=some c) (hlt:c<0) :
  Calls Tryz.prog 160 #[.slice A0 l0.length c0,.slice A1 l1.length c1] w fun e w'=>∃v0_ v1_:Value,e=.returned (.tuple #[v0_,v1_])∧Kd.V (Kd.int .u64) 48 w' w.heap.size (fun k_=>(P0_ k_∨w.heap.size≤k_)) v0_ []∧Kd.V (Kd.int .u64) 48 w' w.heap.size (fun k_=>(P0_ k_∨w.heap.size≤k_)) v1_ l0∧Below w.heap.size w w':=by
 have h0:=Kd.V_reads' hs0
 go_enter Tryz.func160,Tryz.ntmps160
 go_wp2_with (first|(go_at_call 95;refine(whole_amount_cmp.calls k _ _ l0 _ _ l1 c _ h0.2.2 h0.2.1 hr1 hc1 hc).mono ?_;rintro e w1 ⟨rfl,hd⟩;have HB:=Aside0.mk hd.below;clear hd))
 go_ret2
 exact⟨_,_,rfl,Kd.V_nil _ _ _ _ _,Kd.V_mono (Kd.V_below hs0 HB.out) (fun _ h=>.inl h),HB.out⟩
set_option maxHeartbeats 4000000 in
theorem quo_one (k:Nat) (P0_:Nat→Prop) (A0:Option Addr) (c0:Nat) (l0:List Int) (A1:Option Addr) (c1:Nat) (l1:List Int) (w:World) (hs0:Kd.V (Kd.int .u64) 48 w w.heap.size (fun k_=>P0_ k_) (.slice A0 l0.length c0) l0) (hr1:Kd.C (Kd.int .u64) w A1 l1.length l1) (hc1:l1.length≤c1) (c:Int) (q r2:List Int) (r:Int)
  (hc:whole_amount_cmp.f k l0 l1=some c) (hlt:¬c<0) (h1:l1.length=1) (hq:whole_amount_byLimb.f k l0 (rd l1 0)=some (q,r)) (hr:whole_trimmed.f k [r]=some r2) :
  Calls Tryz.prog 160 #[.slice A0 l0.length c0,.slice A1 l1.length c1] w fun e w'=>∃v0_ v1_:Value,e=.returned (.tuple #[v0_,v1_])∧Kd.V (Kd.int .u64) 48 w' w.heap.size (fun k_=>(P0_ k_∨w.heap.size≤k_)) v0_ q∧Kd.V (Kd.int .u64) 48 w' w.heap.size (fun k_=>(P0_ k_∨w.heap.size≤k_)) v1_ r2∧Below w.heap.size w w':=by
 have h0:=Kd.V_reads' hs0
 have b1:((l1.length:Int)==1)=true:=by rw[h1];rfl
 have b1':(l1.length==1)=true:=by rw[h1];rfl
 have HL:=Aside0.mk h1
 have hl0:0<l1.length:=by omega
 obtain⟨ad,rfl,hx⟩:=Kd.at_int hr1 0 Z0 Z0
 have hxx:∀w1,Below w.heap.size w w1→w1.cell? ad=some (.int .u64 (rd l1 0)):=fun w1 hb=>by
  have:=(hb.cell (World.block_lt_of_cell? w _ hx)).trans hx
  rwa [show(0:Int).toNat=0 from rfl,Addr.add_zero']at this
 have HX:=Aside0.mk hxx
 clear hx hxx h1
 go_enter Tryz.func160,Tryz.ntmps160
 go_wp2_with (first
  | (go_at_call 95;refine(whole_amount_cmp.calls k _ _ l0 _ _ l1 c _ h0.2.2 h0.2.1 hr1 hc1 hc).mono ?_;rintro e w1 ⟨rfl,hd⟩;have HB:=Aside0.mk hd.below;clear hd;have hx0:=HX.out _ HB.out)
  | (go_at_call 169;refine(whole_amount_byLimb.calls k _ _ l0 (rd l1 0) q r _ (Kd.C_below h0.2.2 HB.out) h0.2.1 hq).mono ?_;rintro e w2 ⟨v0,rfl,hv0,hb2⟩;have HV0:=Aside0.mk hv0;have HB2:=Aside0.mk (HB.out.trans (hb2.mono HB.out.size));clear hv0 hb2)
  | (go_at_call 93;refine(whole_trimmed.calls k (fun k_=>w.heap.size≤k_) _ 1 [r] r2 _ (Seg.V (pre:=[]) (post:=[]) (xs:=[r]) (g:=w2.heap.size) (blk_new w2 _) HB2.out.size (Nat.le_refl 1) Z1) hr).mono ?_;rintro e w3 ⟨v1,rfl,hv1,hb3⟩;have HV1:=Aside0.mk hv1;have HB3:=Aside0.mk hb3;clear hv1 hb3))
 go_ret2
 have hba:Below w2.heap.size w2 w3:=(below_alloc (Below.refl _ _) _).trans (HB3.out.mono Z1)
 have hB3:Below w.heap.size w w3:=HB2.out.trans (hba.mono HB2.out.size)
 refine⟨_,_,rfl,Kd.V_mono (Kd.V_below HV0.out hba) (fun k_ hk=>.inr (Nat.le_trans HB.out.size hk)),Kd.V_mono HV1.out (fun k_ hk=>.inr (hk.elim id (fun h=>Nat.le_trans HB2.out.size (by simp at h;omega)))),hB3⟩
theorem getElem_madeCells (z:Value) (m i:Nat) (hz:z.cells=#[z]) (h:i<m):(madeCells z.cells m)[i]? = some z:=by
 simp[madeCells,hz,h,Nat.mod_one]
theorem Seg.make (w4:World) (m:Nat) (h:m≤17592186044416):∃w5 gq,(Instr.makeSlice 25 (.int .i64 (m:Int)) (.int .i64 (m:Int))).run Tryz.prog w4=.ok (.slice (some ⟨gq,0,none⟩) m m) w5∧Seg w5 gq [] (List.replicate m 0) []∧Below w4.heap.size w4 w5∧w4.heap.size≤gq:=by
 obtain⟨i0,hi0,hz0,hz1,hz2⟩:=info_parts minfo59q
 have hr:=run_make (P:=Tryz.prog) w4 25 48 i0 (.int .u64 0) Tryz.underlying25 hi0 hz0 .i64 .i64 m m Z0 Z0 (by rw[hz2];omega) Z0
 simp only[Int.toNat_natCast,hz1,Nat.mul_one]at hr
 refine⟨_,_,hr,?_,below_alloc (Below.refl _ _) _,Nat.le_refl _⟩
 have he:madeCells (Value.int .u64 0).cells m=([]++(List.replicate m (0:Int)).map (Value.int .u64)++[]).toArray:=by
  apply Array.ext_getElem?
  intro i
  by_cases hi:i<m
  ·rw[getElem_madeCells _ _ _ rfl hi];simp[hi]
  rw[Array.getElem?_eq_none (by rw[size_madeCells];omega)];simp[hi]
 rw[he]
 exact blk_new w4 _
theorem Seg.cutTo {W:World} {g:Nat} {xs:List Int} {post:List Value} (h:Seg W g [] xs post) (n:Nat):Seg W g [] (xs.take n) ((xs.drop n).map (Value.int .u64)++post):=by
 unfold Seg at *
 rw[h]
 congr 3
 rw[List.nil_append,List.nil_append,←List.append_assoc,←List.map_append,List.take_append_drop]
theorem Seg.mid {W:World} {g:Nat} {a b c:List Int} {post:List Value}:Seg W g [] (a++b++c) post↔Seg W g (a.map (Value.int .u64)) b (c.map (Value.int .u64)++post):=by
 unfold Seg
 simp only[List.map_append,List.nil_append,List.append_assoc]
theorem splice_self (u:List Int) (j n:Nat) (h:j+n≤u.length):splice u j ((u.drop j).take n)=u:=by
 unfold splice
 rw[List.length_take,List.length_drop,Nat.min_eq_left Z0]
 rw[←List.drop_drop,List.append_assoc,List.take_append_drop,List.take_append_drop]
theorem splice_len (u:List Int) (j:Nat) (s:List Int) (h:j+s.length≤u.length):(splice u j s).length=u.length:=by
 unfold splice
 simp only[List.length_append,List.length_take,List.length_drop]
 omega
theorem sub_at (k j n gu cu gv cv:Nat) (U v:List Int) (pu pv:List Value) (g:Int) (b:Bool) (U1:List Int) (W:World) (hu:Seg W gu [] U pu) (hv:Seg W gv [] v pv) (hne:gv≠gu) (hj:j+n+1≤U.length) (hn:n≤v.length) (hm:n≤9223372036854775807)
  (h:whole_subtract.f k ((U.drop j).take (n+1)) (v.take n) g=some (b,U1)) :
  Calls Tryz.prog 174 #[.slice (some ⟨gu,j,none⟩) (n+1) cu,.slice (some ⟨gv,0,none⟩) n cv,.int .u64 g] W fun e w'=>e=.returned (.bool b)∧U1.length=n+1∧Seg w' gu [] (splice U j U1) pu∧KeepBut W w' gu none∧Below gu W w':=by
 have hx:((U.drop j).take (n+1)).length=n+1:=by rw[List.length_take,List.length_drop];omega
 have hp:((U.take j).map (Value.int .u64)).length=j:=by rw[List.length_map,List.length_take];omega
 have hvl:(v.take n).length=n:=by rw[List.length_take];omega
 have hu':=hu
 rw[←splice_self U j (n+1) Z0]at hu'
 unfold splice at hu'
 rw[Seg.mid]at hu'
 have:=subtract_seg k gu cu _ _ _ (some ⟨gv,0,none⟩) cv (v.take n) g b U1 W hu' (fun W' hk=>Seg.C (pre:=[]) ((hv.keep hk hne).cutTo n) Z0) h
 rw[hp,hx,hvl]at this
 refine this.mono ?_
 rintro e w' ⟨he,hl,hs,hk⟩
 refine⟨he,hl,?_,hk⟩
 unfold splice
 rw[Seg.mid,hl]
 exact hs
theorem add_at (k j n gu cu gv cv:Nat) (U v:List Int) (pu pv:List Value) (U1 s:List Int) (W:World) (hu:Seg W gu [] (splice U j U1) pu) (hv:Seg W gv [] v pv) (hne:gv≠gu) (hj:j+n+1≤U.length) (hl:U1.length=n+1) (hn:n≤v.length) (hm:n≤9223372036854775807)
  (h:whole_add.f k U1 (v.take n)=some s) :
  Calls Tryz.prog 175 #[.slice (some ⟨gu,j,none⟩) (n+1) cu,.slice (some ⟨gv,0,none⟩) n cv] W fun e w'=>e=.returned (.tuple #[])∧s.length=n+1∧Seg w' gu [] (splice U j s) pu∧KeepBut W w' gu none∧Below gu W w':=by
 have hp:((U.take j).map (Value.int .u64)).length=j:=by rw[List.length_map,List.length_take];omega
 have hvl:(v.take n).length=n:=by rw[List.length_take];omega
 have hu':=hu
 unfold splice at hu'
 rw[Seg.mid]at hu'
 have:=add_seg k gu cu _ _ _ (some ⟨gv,0,none⟩) cv (v.take n) s W hu' (fun W' hk=>Seg.C (pre:=[]) ((hv.keep hk hne).cutTo n) Z0) h
 rw[hp,hl,hvl]at this
 refine this.mono ?_
 rintro e w' ⟨he,hl',hs,hk⟩
 refine⟨he,hl',?_,hk⟩
 unfold splice
 rw[Seg.mid,hl']
 exact hs
theorem cut_mid (gu:Nat) (n c:Nat) (j h:Int) (h0:0≤j) (h1:j<h) (h2:h≤c) (W:World) :
  (Instr.slice 25 (.slice (some ⟨gu,0,none⟩) n c) (some (.int .i64 j)) (some (.int .i64 h)) none).run Tryz.prog W=.ok (.slice (some ⟨gu,j.toNat,none⟩) (h-j).toNat (c-j.toNat)) W:=by
 obtain⟨i0,hi,hz0,hz1,hz2⟩:=info_parts minfo59q
 have hel:Tryz.prog.elem 25=48:=by simp[Program.elem,Tryz.underlying25]
 have hu:Tryz.prog.underlying 25=some (.slice (Tryz.prog.elem 25)):=by rw[hel];exact Tryz.underlying25
 rw[run_slice_lh W 25 _ n c hu .i64 .i64 j h h0 Z0 h2,hel]
 have e1:c≠j.toNat:=by omega
 have e2:(Addr.add ⟨gu,0,none⟩ j.toNat)=⟨gu,j.toNat,none⟩:=by
  unfold Addr.add
  split<;>simp_all
 have e3:h.toNat-j.toNat=(h-j).toNat:=by omega
 simp[sizeOf,typeInfo,hi,hz1,sliced,Result.andThen,e1,e2,e3]
theorem rd_take (l:List Int) (n:Nat) (i:Int) (h0:0≤i) (h:i<n):rd (l.take n) i=rd l i:=by
 simp[rd,List.getD_eq_getElem?_getD,show i.toNat<n from by omega]
theorem quo_more (k:Nat) (P0_:Nat→Prop) (A0:Option Addr) (c0:Nat) (l0:List Int) (A1:Option Addr) (c1:Nat) (l1:List Int) (w:World) (hs0:Kd.V (Kd.int .u64) 48 w w.heap.size (fun k_=>P0_ k_) (.slice A0 l0.length c0) l0) (hr1:Kd.C (Kd.int .u64) w A1 l1.length l1) (hc1:l1.length≤c1) (c s:Int) (v u rU rQ q r0 r:List Int)
  (hc:whole_amount_cmp.f k l0 l1=some c) (hlt:¬c<0) (h1:¬l1.length=1) (h2:l1.length<l0.length+1) (h3:2≤l1.length) (h4:l0.length<17592186044416)
  (hs:bits_LeadingZeros64.f (rd l1 ((l1.length:Int)-1))=some s) (hs1:0≤s) (hs2:s≤64) (hv:whole_amount_up.f k l1 s=some v) (hu:whole_amount_up.f k l0 s=some u) (hv1:l1.length≤v.length) (hu1:l1.length≤u.length)
  (hg:quo_go k u (v.take l1.length) (List.replicate (l0.length-l1.length+1) 0) ((l0.length:Int)-(l1.length:Int))=some (rU,rQ))
  (hq:whole_trimmed.f k rQ=some q) (hr0:whole_trimmed.f k (rU.take l1.length)=some r0) (hr:whole_amount_down.f k r0 s=some r) :
  Calls Tryz.prog 160 #[.slice A0 l0.length c0,.slice A1 l1.length c1] w fun e w'=>∃v0_ v1_:Value,e=.returned (.tuple #[v0_,v1_])∧Kd.V (Kd.int .u64) 48 w' w.heap.size (fun k_=>(P0_ k_∨w.heap.size≤k_)) v0_ q∧Kd.V (Kd.int .u64) 48 w' w.heap.size (fun k_=>(P0_ k_∨w.heap.size≤k_)) v1_ r∧Below w.heap.size w w':=by
 have h0:=Kd.V_reads' hs0
 have b1:((l1.length:Int)==1)=false:=by rw[beq_eq_false_iff_ne];omega
 have b1':(l1.length==1)=false:=by rw[beq_eq_false_iff_ne];omega
 have hl0:(l1.length:Int)-1<l1.length:=by omega
 have hl1:0≤(l1.length:Int)-1:=by omega
 have wl1:wrap64 ((l1.length:Int)-1)=(l1.length:Int)-1:=IntWalk.wrap64_in _ ⟨Z0,Z0⟩
 obtain⟨ad,rfl,hx⟩:=Kd.at_int hr1 ((l1.length:Int)-1) Z0 Z0
 have hxx:∀w1,Below w.heap.size w w1→w1.cell? (ad.add (l1.length-1))=some (.int .u64 (rd l1 ((l1.length:Int)-1))):=fun w1 hb=>by
  rw[show l1.length-1=((l1.length:Int)-1).toNat from by omega]
  exact(hb.cell (World.block_lt_of_cell? w _ hx)).trans hx
 have HX:=Aside0.mk hxx
 clear hx hxx h1 wl1
 go_enter Tryz.func160,Tryz.ntmps160
 go_wp2_with (first
  | (go_at_call 95;refine(whole_amount_cmp.calls k _ _ l0 _ _ l1 c _ h0.2.2 h0.2.1 hr1 hc1 hc).mono ?_;rintro e w1 ⟨rfl,hd⟩;have HB:=Aside0.mk hd.below;clear hd;have hx0:=HX.out _ HB.out)
  | (go_at_call 170;refine(bits_LeadingZeros64.calls _ s _ hs).mono ?_;rintro e w2 ⟨rfl,hd⟩;have HB2:=Aside0.mk (HB.out.trans (hd.below.mono HB.out.size));clear hd hx0)
  | (go_at_call 171;(with_reducible refine(whole_amount_up.calls k _ _ l1 s v _ ?sv hc1 hv).mono ?_);(case sv=>exact Kd.C_below hr1 HB2.out);rintro e w3 ⟨vv,rfl,hR,hb⟩;obtain⟨gv,cv,pv,rfl,hgv,hlv,hcv,hsv⟩:=Seg.of_R hR Z0;have HSV:=Aside0.mk hsv;have HB3:=Aside0.mk (HB2.out.trans (hb.mono HB2.out.size));have HGV:=Aside0.mk (Nat.le_trans HB2.out.size hgv);clear hR hb hsv hgv;obtain⟨i0,hi0,_,_,_⟩:=info_parts minfo59q;have hcut:=cut_to (P:=Tryz.prog) 25 48 .i64 Tryz.underlying25 hi0 (some ⟨gv,0,none⟩) v.length cv (l1.length:Int) Z0 Z0 hlv;simp only[Int.toNat_natCast]at hcut)
  | (go_at_call 171;(with_reducible refine(whole_amount_up.calls k _ _ l0 s u _ ?su h0.2.1 hu).mono ?_);(case su=>exact Kd.C_below h0.2.2 HB3.out);rintro e w4 ⟨uu,rfl,hR,hb⟩;obtain⟨gu,cu,pu,rfl,hgu,hlu,hcu,hsu⟩:=Seg.of_R hR Z0;have HNE:=Aside0.mk (show gv≠gu from by have:=HSV.out.lt;omega);have af:=HSV.out;have HB4:=Aside0.mk (HB3.out.trans (hb.mono HB3.out.size));have HGU:=Aside0.mk (Nat.le_trans HB3.out.size hgu);obtain⟨w5,gq,hmk,hsq,hbq,hgq⟩:=Seg.make w4 (l0.length-l1.length+1) Z0;rw[show((l0.length-l1.length+1:Nat):Int)=(l0.length:Int)-(l1.length:Int)+1 from by omega]at hmk;have ah:=Aside0.mk ((af.below hb).below hbq);have ai:=Aside0.mk (hsu.below hbq);have aj:=Aside0.mk hsq;have HB5:=Aside0.mk (HB4.out.trans (hbq.mono HB4.out.size));have HNQ:=Aside0.mk (show gq≠gv∧gq≠gu from by have h1:=(af.below hb).lt;have h2:=hsu.lt;omega);have HGQ:=Aside0.mk (Nat.le_trans HB4.out.size hgq);clear hR hb hsu hgu hcut af hsq hbq hgq))
 clear hmk
 have hVl:(v.take l1.length).length=l1.length:=by rw[List.length_take];omega
 have HG:=Aside0.mk hg
 clear hg
 go_loopg [14] k (fun kq v14 w'=>∃(U Q:List Int) (j:Int),v14=.int .i64 j∧Aside0 (quo_go kq U (v.take l1.length) Q j=some (rU,rQ))∧Aside0 (kq≤k)∧Aside0 (U.length=u.length)∧Aside0 (Q.length=l0.length-l1.length+1)∧Aside0 (Seg w' gv [] v pv)∧Aside0 (Seg w' gu [] U pu)∧Aside0 (Seg w' gq [] Q [])∧Aside0 (Below w.heap.size w w'))
 case atStart=>exact⟨u,_,_,rfl,HG,⟨Nat.le_refl _⟩,⟨rfl⟩,⟨Z1⟩,ah,ai,aj,HB5⟩
 case round=>
  clear HG ah ai aj HB5 HSV
  obtain⟨U,Q,j,rfl,HA,HK1,HLU,HLQ,HSV,HSU,HSQ,HB⟩:=hrel
  cases gk with
  | zero=>exact absurd HA.out (by simp[quo_go])
  | succ k1=>
   have H:=HA.out
   clear HA
   simp only[quo_go,hVl,HLU.out,HLQ.out]at H
   by_cases cj:j<0
   ·rw[if_pos cj,Option.some.injEq,Prod.mk.injEq]at H
    obtain⟨rfl,rfl⟩:=H
    have HBW:∀W,Below wr.heap.size wr W→w.heap.size≤W.heap.size:=fun W hb=>Nat.le_trans HB.out.size hb.size
    have TQ:=Aside0.mk (show ∀W,Below wr.heap.size wr W→Calls Tryz.prog 93 #[.slice (some ⟨gq,0,none⟩) (l0.length-l1.length+1) (l0.length-l1.length+1)] W fun e w'=>∃v0_:Value,e=.returned (v0_)∧Kd.V (Kd.int .u64) 48 w' w.heap.size (fun k_=>w.heap.size≤k_) v0_ q∧Below W.heap.size W w'∧Below wr.heap.size wr w' from fun W hb=>by
     have:=whole_trimmed.calls k (fun k_=>w.heap.size≤k_) (some ⟨gq,0,none⟩) (l0.length-l1.length+1) Q q W (Seg.V (pre:=[]) (HSQ.out.below hb) HGQ.out Y6 Y6) hq
     rw[HLQ.out]at this
     refine this.mono ?_
     rintro e w' ⟨v,he,hv,hb'⟩
     exact⟨v,he,Kd.V_lower (Kd.V_mono hv (fun k_ hk=>hk.elim id (fun h=>Nat.le_trans (HBW W hb) h))) (HBW W hb),hb',hb.trans (hb'.mono hb.size)⟩)
    have TU:=Aside0.mk (show ∀W,Below wr.heap.size wr W→Calls Tryz.prog 93 #[.slice (some ⟨gu,0,none⟩) l1.length cu] W fun e w'=>∃v0_:Value,e=.returned (v0_)∧(∃A c,v0_=.slice A r0.length c∧r0.length≤c∧Kd.C (Kd.int .u64) w' A r0.length r0)∧Below W.heap.size W w'∧Below wr.heap.size wr w' from fun W hb=>by
     have hl:(U.take l1.length).length=l1.length:=by rw[List.length_take,HLU.out];omega
     have:=whole_trimmed.calls k (fun k_=>w.heap.size≤k_) (some ⟨gu,0,none⟩) cu (U.take l1.length) r0 W (Seg.V (pre:=[]) ((HSU.out.below hb).cutTo _) HGU.out (by rw[hl];omega) (by rw[hl];omega)) hr0
     rw[hl]at this
     refine this.mono ?_
     rintro e w' ⟨v,he,hv,hb'⟩
     obtain⟨A,c,rfl,hc,-⟩:=id hv
     exact⟨_,he,⟨A,c,rfl,hc,(Kd.V_reads' hv).2.2⟩,hb',hb.trans (hb'.mono hb.size)⟩)
    have TD:=Aside0.mk (show ∀W A c,Below wr.heap.size wr W→r0.length≤c→Kd.C (Kd.int .u64) W A r0.length r0→Calls Tryz.prog 176 #[.slice A r0.length c,.int .u64 s] W fun e w'=>∃v0_:Value,e=.returned (v0_)∧Kd.V (Kd.int .u64) 48 w' w.heap.size (fun k_=>w.heap.size≤k_) v0_ r∧Below W.heap.size W w'∧Below wr.heap.size wr w' from fun W A c hb hcl hC=>by
     refine(whole_amount_down.calls k A c r0 s r W hC hcl hr).mono ?_
     rintro e w' ⟨v,he,hv,hb'⟩
     exact⟨v,he,Kd.V_lower (Kd.V_mono hv (fun k_ hk=>Nat.le_trans (HBW W hb) hk)) (HBW W hb),hb',hb.trans (hb'.mono hb.size)⟩)
    have HBC:=Aside0.mk (Below.refl wr.heap.size wr)
    obtain⟨i1,hi1,_,_,_⟩:=info_parts minfo59q
    have hcut:=cut_to (P:=Tryz.prog) 25 48 .i64 Tryz.underlying25 hi1 (some ⟨gu,0,none⟩) u.length cu (l1.length:Int) Z0 Z0 hlu
    simp only[Int.toNat_natCast]at hcut
    clear hr hq hr0 HBW
    go_upto_region 28 with(fail)
    go_region_with (first
     | (go_at_call_of 93 gq;refine(TQ.out _ ?hbt).mono ?_;(case hbt=>(first|exact HBC.out|exact pw_below_drewN HBC.out _|exact pw_below_drewN HBC.out 1));rintro e w8 ⟨vq,rfl,hvq,hb,hbc⟩;(try replace HCU:=Aside0.mk (Kd.C_below HCU.out hb));(try replace HVR:=Aside0.mk (Kd.V_below HVR.out hb));have HVQ:=Aside0.mk hvq;clear HBC;have HBC:=Aside0.mk hbc;clear hvq hb hbc)
     | (go_at_call_of 93 gu;refine(TU.out _ ?hbt).mono ?_;(case hbt=>(first|exact HBC.out|exact pw_below_drewN HBC.out _|exact pw_below_drewN HBC.out 1));rintro e w8 ⟨vu,rfl,⟨au,cu',rfl,hcu',hc⟩,hb,hbc⟩;(try replace HVQ:=Aside0.mk (Kd.V_below HVQ.out hb));have HCU:=Aside0.mk hc;have HCC:=Aside0.mk hcu';clear HBC;have HBC:=Aside0.mk hbc;clear hb hc hcu' hbc)
     | (go_at_call 176;refine(TD.out _ _ _ ?hbt HCC.out ?hcd).mono ?_;(case hbt=>(first|exact HBC.out|exact pw_below_drewN HBC.out _|exact pw_below_drewN HBC.out 1));(case hcd=>exact HCU.out);rintro e w8 ⟨vr,rfl,hvr,hb,hbc⟩;(try replace HVQ:=Aside0.mk (Kd.V_below HVQ.out hb));have HVR:=Aside0.mk hvr;clear HBC;have HBC:=Aside0.mk hbc;clear hvr hb hbc))
    all_goals go_wp2
    all_goals go_ret2
    all_goals exact⟨_,_,rfl,Kd.V_mono HVQ.out (fun _ h=>.inr h),Kd.V_mono HVR.out (fun _ h=>.inr h),HB.out.trans (HBC.out.mono HB.out.size)⟩
   rw[if_neg cj]at H
   by_cases c1:j+(l1.length:Int)<(u.length:Int)∧j<((l0.length-l1.length+1:Nat):Int)∧2≤l1.length
   ·rw [if_pos c1]at H
    obtain⟨c1,c2,_⟩:=c1
    obtain⟨g,hgs,H⟩:=Option.bind_eq_some_iff.mp H
    obtain⟨⟨b,U1⟩,hsub,H⟩:=Option.bind_eq_some_iff.mp H
    have H:=Aside0.mk H
    have HSB:=Aside0.mk hsub
    clear hsub
    have hu0:=HSU.out.cell0 (j+(l1.length:Int)) Z0 (by rw[HLU.out];omega)
    have hu1:=HSU.out.cell0 (j+(l1.length:Int)-1) Z0 (by rw[HLU.out];omega)
    have hu2:=HSU.out.cell0 (j+(l1.length:Int)-2) Z0 (by rw[HLU.out];omega)
    have hv0:=HSV.out.cell0 ((l1.length:Int)-1) Z0 Z0
    have hv1:=HSV.out.cell0 ((l1.length:Int)-2) Z0 Z0
    rw[←rd_take v l1.length _ Z0 Z0]at hv0 hv1
    rw[show((l1.length:Int)-1).toNat=l1.length-1 from by omega]at hv0
    rw[show(j+(l1.length:Int)-1).toNat=(j+(l1.length:Int)).toNat-1 from by omega]at hu1
    rw[show((l1.length:Int)-2).toNat=l1.length-2 from by omega]at hv1
    generalize ao:rd U (j+(l1.length:Int))=un0 at hu0 hgs
    generalize ap:rd U (j+(l1.length:Int)-1)=un1 at hu1 hgs
    generalize aq:rd U (j+(l1.length:Int)-2)=un2 at hu2 hgs
    generalize ar:rd (v.take l1.length) ((l1.length:Int)-1)=vn1 at hv0 hgs
    generalize av:rd (v.take l1.length) ((l1.length:Int)-2)=vn2 at hv1 hgs
    clear ao ap aq ar av
    have HGS:=Aside0.mk hgs
    clear hgs
    go_wp2
    go_quiet (fail)
    go_upto_if 83 with(fail)
    go_cut [15] (fun v15 wc=>v15=.int .u64 g∧Aside0 (Seg wc gv [] v pv)∧Aside0 (Seg wc gu [] U pu)∧Aside0 (Seg wc gq [] Q [])∧Aside0 (Below w.heap.size w wc))
    case first=>
     replace HGS:=HGS.out
     by_cases cg:un0<vn1
     ·simp only[quo_guess,if_pos cg]at HGS
      obtain⟨⟨g0,t0⟩,hdiv,HGS⟩:=Option.bind_eq_some_iff.mp HGS
      replace HGS:=Aside0.mk HGS
      have HDV:=Aside0.mk hdiv
      clear hdiv
      go_wp2
      go_quiet (first|(go_at_call 172;refine(bits_Div64.calls k1 un0 un1 vn1 g0 t0 _ HDV.out).mono ?_;rintro e w' ⟨rfl,⟨nd,rfl⟩⟩;exact⟨rfl,_,by rw[World.drewN_drewN,Nat.add_assoc]⟩))
      go_wp2
      go_loopg [15,16] k1 (fun kr v15 v16 w'=>∃(x15 x16:Int),v15=.int .u64 x15∧v16=.int .u64 x16∧Aside0 (quo_fix kr x15 x16 vn2 vn1 un2=some g)∧Aside0 (kr≤k1)∧Aside0 (∃m,w'=wr.drewN m))
      case atStart=>exact⟨_,_,rfl,rfl,HGS,⟨Nat.le_refl _⟩,⟨_,by rw[World.drewN_drewN]⟩⟩
      case round=>
       obtain⟨x15,x16,rfl,rfl,HA,HK2,HW⟩:=hrel
       obtain⟨m,rfl⟩:=HW.out
       clear HW
       cases gk with
       | zero=>exact absurd HA.out (by simp[quo_fix])
       | succ k2=>
        have H:=HA.out
        clear HA
        simp only[quo_fix]at H
        obtain⟨⟨hi,lo⟩,hmul,H⟩:=Option.bind_eq_some_iff.mp H
        have HM:=Aside0.mk hmul
        clear hmul
        simp only at H
        by_cases d1:hi<x16
        ·rw[if_pos d1,Option.some.injEq]at H
         subst H
         go_wp2_with (first|(go_at_call 173;refine(bits_Mul64.calls _ _ hi lo _ HM.out).mono ?_;rintro e w' ⟨rfl,⟨nd,rfl⟩⟩))
         go_meet
         case rel=>exact⟨rfl,⟨D4⟩,⟨Z5⟩,⟨Y5⟩,⟨Y4⟩⟩
        rw[if_neg d1]at H
        by_cases d2:hi=x16
        ·subst d2
         by_cases d4:lo≤un2
         ·rw[if_pos ⟨rfl,d4⟩,Option.some.injEq]at H
          subst H
          go_wp2_with (first|(go_at_call 173;refine(bits_Mul64.calls _ _ hi lo _ HM.out).mono ?_;rintro e w' ⟨rfl,⟨nd,rfl⟩⟩))
          go_meet
          case rel=>exact⟨rfl,⟨D4⟩,⟨Z5⟩,⟨Y5⟩,⟨Y4⟩⟩
         rw[if_neg (fun h=>d4 h.2)]at H
         by_cases d3:IntKind.u64.wrap (hi+vn1)<hi
         ·rw[if_pos d3,Option.some.injEq]at H
          subst H
          go_wp2_with (first|(go_at_call 173;refine(bits_Mul64.calls _ _ hi lo _ HM.out).mono ?_;rintro e w' ⟨rfl,⟨nd,rfl⟩⟩))
          go_meet
          case rel=>exact⟨rfl,⟨D4⟩,⟨Z5⟩,⟨Y5⟩,⟨Y4⟩⟩
         rw[if_neg d3]at H
         have H:=Aside0.mk H
         go_wp2_with (first|(go_at_call 173;refine(bits_Mul64.calls _ _ hi lo _ HM.out).mono ?_;rintro e w' ⟨rfl,⟨nd,rfl⟩⟩))
         go_roundg k2
         case measure=>have:=HK2.out;omega
         case rel=>exact⟨_,_,rfl,rfl,H,⟨by have:=HK2.out;omega⟩,⟨m+nd,by first|rfl|simp only[World.drewN_drewN]⟩⟩
        rw[if_neg (fun h=>d2 h.1)]at H
        by_cases d3:IntKind.u64.wrap (x16+vn1)<x16
        ·rw[if_pos d3,Option.some.injEq]at H
         subst H
         go_wp2_with (first|(go_at_call 173;refine(bits_Mul64.calls _ _ hi lo _ HM.out).mono ?_;rintro e w' ⟨rfl,⟨nd,rfl⟩⟩))
         go_meet
         case rel=>exact⟨rfl,⟨D4⟩,⟨Z5⟩,⟨Y5⟩,⟨Y4⟩⟩
        rw[if_neg d3]at H
        have H:=Aside0.mk H
        go_wp2_with (first|(go_at_call 173;refine(bits_Mul64.calls _ _ hi lo _ HM.out).mono ?_;rintro e w' ⟨rfl,⟨nd,rfl⟩⟩))
        go_roundg k2
        case measure=>have:=HK2.out;omega
        case rel=>exact⟨_,_,rfl,rfl,H,⟨by have:=HK2.out;omega⟩,⟨m+nd,by first|rfl|simp only[World.drewN_drewN]⟩⟩
     simp only[quo_guess,if_neg cg,Option.some.injEq]at HGS
     subst HGS
     go_wp2
     go_meet
     case rel=>exact⟨rfl,⟨HSV.out.drewN _⟩,⟨HSU.out.drewN _⟩,⟨HSQ.out.drewN _⟩,⟨pw_below_drewN HB.out _⟩⟩
    case rest=>
     obtain⟨rfl,ac,ak,al,HB1⟩:=hcut
     clear HSV HSU HSQ HB hu0 hu1 hu2 hv0 hv1 HGS
     have hcm:=cut_mid gu u.length cu j (j+(l1.length:Int)+1) Z0 Z0 Z0
     rw[show(j+(l1.length:Int)+1-j).toNat=l1.length+1 from by omega]at hcm
     have HLU':=HLU.out
     have hsa:=fun W hu hv=>sub_at k1 j.toNat l1.length gu (cu-j.toNat) gv cv U v pu pv g b U1 W hu hv HNE.out Z0 Z0 Z0 HSB.out
     have HSA:=Aside0.mk hsa
     clear hsa HLU'
     cases b with
     | true=>
      replace H:=H.out
      clear HSB
      rw[if_pos rfl]at H
      obtain⟨S1,hadd,H⟩:=Option.bind_eq_some_iff.mp H
      have HF:=Aside0.mk H
      clear H
      have HAD:=Aside0.mk hadd
      clear hadd
      go_wp2_with (first
       | (go_at_call 174;refine(HSA.out _ ak.out ac.out).mono ?_;rintro e w6 ⟨rfl,hl1,hs1,hk1,hb1⟩;have HL1:=Aside0.mk hl1;have ae:=Aside0.mk hs1;have aa:=Aside0.mk (ac.out.keep hk1 HNE.out);have ab:=Aside0.mk (al.out.keep hk1 HNQ.out.2);have HB2':=Aside0.mk (HB1.out.trans (hb1.mono HGU.out));clear hl1 hs1 hk1 hb1)
       | (go_at_call 175;refine(add_at k1 j.toNat l1.length gu (cu-j.toNat) gv cv U v pu pv U1 S1 _ ae.out aa.out HNE.out (by have:=HLU.out;omega) HL1.out Z0 Z0 HAD.out).mono ?_;rintro e w7 ⟨rfl,hl1,hs1,hk1,hb1⟩;have HL3:=Aside0.mk hl1;have am:=Aside0.mk hs1;have an:=Aside0.mk (aa.out.keep hk1 HNE.out);have ag:=Aside0.mk (ab.out.keep hk1 HNQ.out.2);have HB3':=Aside0.mk (HB2'.out.trans (hb1.mono HGU.out));have hqc:=ag.out.cell0 j Z0 Y6;have hqf:=ag.out.free j.toNat;clear hl1 hs1 hk1 hb1))
      go_roundg k1
      case measure=>have:=HK1.out;omega
      case rel=>
       have hp:=ag.out.put0 j (IntKind.u64.wrap (g-1)) Z0 Y6
       exact⟨splice U j.toNat S1,_,_,rfl,HF,⟨X2⟩,⟨by rw[splice_len _ _ _ (by rw[HL3.out];have:=HLU.out;omega)];exact HLU.out⟩,⟨by rw[List.length_set];exact HLQ.out⟩,⟨by first|exact an.out.far HNQ.out.1.symm _|exact(an.out.drewN _).far HNQ.out.1.symm _⟩,⟨by first|exact am.out.far HNQ.out.2.symm _|exact(am.out.drewN _).far HNQ.out.2.symm _⟩,⟨by first|exact hp|exact hp.drewN _⟩,⟨by first|exact HB3'.out.setCell HGQ.out _|exact(pw_below_drewN HB3'.out _).setCell HGQ.out _⟩⟩
     | false=>
      replace H:=H.out
      clear HSB
      rw[if_neg Z1]at H
      have HF:=Aside0.mk H
      clear H
      go_wp2_with (first
       | (go_at_call 174;refine(HSA.out _ ak.out ac.out).mono ?_;rintro e w6 ⟨rfl,hl1,hs1,hk1,hb1⟩;have HL1:=Aside0.mk hl1;have ae:=Aside0.mk hs1;have aa:=Aside0.mk (ac.out.keep hk1 HNE.out);have ab:=Aside0.mk (al.out.keep hk1 HNQ.out.2);have HB2':=Aside0.mk (HB1.out.trans (hb1.mono HGU.out));have hqc:=ab.out.cell0 j Z0 Y6;have hqf:=ab.out.free j.toNat;clear hl1 hs1 hk1 hb1))
      go_roundg k1
      case measure=>have:=HK1.out;omega
      case rel=>
       have hp:=ab.out.put0 j g Z0 Y6
       exact⟨splice U j.toNat U1,_,_,rfl,HF,⟨X2⟩,⟨by rw[splice_len _ _ _ (by rw[HL1.out];have:=HLU.out;omega)];exact HLU.out⟩,⟨by rw[List.length_set];exact HLQ.out⟩,⟨by first|exact aa.out.far HNQ.out.1.symm _|exact(aa.out.drewN _).far HNQ.out.1.symm _⟩,⟨by first|exact ae.out.far HNQ.out.2.symm _|exact(ae.out.drewN _).far HNQ.out.2.symm _⟩,⟨by first|exact hp|exact hp.drewN _⟩,⟨by first|exact HB2'.out.setCell HGQ.out _|exact(pw_below_drewN HB2'.out _).setCell HGQ.out _⟩⟩
   rw[if_neg c1]at H;exact absurd H Z1
theorem whole_amount_quo.calls (k:Nat) (P0_:Nat→Prop) (A0:Option Addr) (c0:Nat) (l0:List Int) (A1:Option Addr) (c1:Nat) (l1:List Int) (r1 r2:List Int) (w:World) (hs0:Kd.V (Kd.int .u64) 48 w w.heap.size (fun k_=>P0_ k_) (.slice A0 l0.length c0) l0) (hr1:Kd.C (Kd.int .u64) w A1 l1.length l1) (hc1:l1.length≤c1) (h:whole_amount_quo.f k l0 l1=some (r1,r2)) :
  Calls Tryz.prog 160 #[.slice A0 l0.length c0,.slice A1 l1.length c1] w fun e w'=>∃v0_ v1_:Value,e=.returned (.tuple #[v0_,v1_])∧Kd.V (Kd.int .u64) 48 w' w.heap.size (fun k_=>(P0_ k_∨w.heap.size≤k_)) v0_ r1∧Kd.V (Kd.int .u64) 48 w' w.heap.size (fun k_=>(P0_ k_∨w.heap.size≤k_)) v1_ r2∧Below w.heap.size w w':=by
 unfold whole_amount_quo.f at h
 obtain⟨c,hc,h⟩:=Option.bind_eq_some_iff.mp h
 by_cases hlt:c<0
 ·rw[if_pos hlt,Option.some.injEq,Prod.mk.injEq]at h
  obtain⟨rfl,rfl⟩:=h
  exact quo_less k P0_ A0 c0 l0 A1 c1 l1 w hs0 hr1 hc1 c hc hlt
 rw[if_neg hlt]at h
 by_cases h1:l1.length=1
 ·rw[if_pos h1]at h
  obtain⟨⟨q,r⟩,hq,h⟩:=Option.bind_eq_some_iff.mp h
  obtain⟨t,ht,h⟩:=Option.bind_eq_some_iff.mp h
  rw[Option.some.injEq,Prod.mk.injEq]at h
  obtain⟨rfl,rfl⟩:=h
  exact quo_one k P0_ A0 c0 l0 A1 c1 l1 w hs0 hr1 hc1 c _ _ r hc hlt h1 hq ht
 rw[if_neg h1]at h
 by_cases h2:l1.length<l0.length+1∧2≤l1.length∧l0.length<17592186044416
 ·rw[if_pos h2]at h
  obtain⟨s,hs,h⟩:=Option.bind_eq_some_iff.mp h
  by_cases h3:0≤s∧s≤64
  ·rw[if_pos h3]at h
   obtain⟨v,hv,h⟩:=Option.bind_eq_some_iff.mp h
   obtain⟨u,hu,h⟩:=Option.bind_eq_some_iff.mp h
   by_cases h4:l1.length≤v.length∧l1.length≤u.length
   ·rw[if_pos h4]at h
    obtain⟨⟨rU,rQ⟩,hg,h⟩:=Option.bind_eq_some_iff.mp h
    obtain⟨q,hq,h⟩:=Option.bind_eq_some_iff.mp h
    obtain⟨r0,hr0,h⟩:=Option.bind_eq_some_iff.mp h
    obtain⟨r,hr,h⟩:=Option.bind_eq_some_iff.mp h
    rw[Option.some.injEq,Prod.mk.injEq]at h
    obtain⟨rfl,rfl⟩:=h
    exact quo_more k P0_ A0 c0 l0 A1 c1 l1 w hs0 hr1 hc1 c s v u rU rQ _ r0 _ hc hlt h1 h2.1 h2.2.1 h2.2.2 hs h3.1 h3.2 hv hu h4.1 h4.2 hg hq hr0 hr
   rw[if_neg h4]at h;cases h
  rw[if_neg h3]at h;cases h
 rw[if_neg h2]at h;cases h
end Go.Proofs.YtncomlmhagaajaaGreat.Mine
