/- Part 1 of what the card rests on. -/
import Derived.Test.YtikencoikigllaaGreatDoorRows
import Derived.Test.YtikencoikigllaaGreatDoorProg
import Derived.Below
import Derived.OwnWalk
import Derived.Laws.MakeOwn
import Derived.Laws.Externs
import Derived.Shelf.Spec.BitsCarry
import Derived.WalkKit
import Derived.KernelRfl
import Derived.RowKit3
import Derived.Lib.AppendStr
import Derived.WideLaws
import Derived.WalkSpells
import Derived.Lib.LazyBuf
import Derived.Deep.LoopGhost
import Derived.Deep.QuietTactic
import Derived.BigQuiet
import Derived.ArgAppend
import Derived.Shelf.Strings.Builder1
import Derived.Shelf.Strings.Builder2
import Derived.Shelf.Strings.OnBuilder
import Derived.Shelf.Strings.Trim
import Derived.Shelf.Small.Utf8
import Derived.Shelf.Small.Bits
import Derived.Shelf.Small.Strs
import Derived.Shelf.Small.Wraps
import Derived.Shelf.Strings.BuilderF
import Derived.Shelf.Strconv.Itoa0
import Derived.Shelf.Strconv.Itoa1
import Derived.Shelf.LaysM
import Derived.Shelf.Strconv.Itoa2
import Derived.Shelf.Strconv.Lower
import Derived.Shelf.Strconv.ParseUint10
import Derived.Shelf.Strconv.ParseUintEmpty
import Derived.Shelf.Strconv.ParseUint10b64
import Derived.Shelf.Strconv.ParseUint10b32
import Derived.Shelf.Strconv.ParseUint10b16
import Derived.Shelf.Strconv.ParseUint10b8
import Derived.Shelf.Strconv.ParseUint10At
import Derived.Ground.MpProg
import Derived.Shelf.Pu.ParseUintPublic10
import Derived.Shelf.Strings.Search1
import Derived.Shelf.Strings.Search2
import Derived.Shelf.Strings.Cut
import Derived.Shelf.Strings.Shaped
import Derived.Shelf.Strings.Prefix
import Derived.Shelf.Strings.Runes
import Derived.Shelf.Strings.AsciiSet
import Derived.Shelf.Bits.Mul64
import Derived.Shelf.Strings.Repeat
import Derived.Shelf.Unicode.DecodeSlow
import Derived.Ground.Names2Prog
import Derived.Shelf.Slices.ReverseS
import Derived.Shelf.Slices.Cells
import Derived.Shelf.Strings.SlTrimAscii
import Derived.Lib.ParseIntBCases
import Derived.Deep.Draws
import Derived.Deep.AppendLies
import Derived.Maps.AppendAt
import Derived.Laws.BytesArg
import Derived.Laws.OwnMore
import Derived.Deep.OwnRows
import Derived.Tactics
import Derived.Lib.ConvBytes
import Derived.Laws.Slices
import Derived.Deep.DeepCutAuto
import Derived.Deep.CutBlock
import Derived.Deep.RegionHeld3
import Derived.Laws.Rows
import Derived.Laws.IdiomCopy
import Derived.OrdersHeld
import Derived.Laws.BitsLemmas
import Derived.RowKit
import Derived.Test.YtikencoikigllaaGreatDoorCr0
set_option maxHeartbeats 8000000
set_option maxRecDepth 100000
set_option linter.unusedVariables false
set_option linter.unusedSimpArgs false
namespace Go.Proofs.YtikencoikigllaaGreatDoor.bulks
theorem one_le {H:Type} (d:DataW H):1≤Rows.uptoBulk d:=by
 cases d with
 | lit l=>cases l<;>simp[Rows.uptoBulk]
 | nil=>simp[Rows.uptoBulk]
 | ptr d=>simp[Rows.uptoBulk]
 | slice elems spare=>simp[Rows.uptoBulk]
 | agg parts=>simp[Rows.uptoBulk]
 | iface t d=>simp[Rows.uptoBulk]
 | map entries=>simp[Rows.uptoBulk]
 | held h=>simp[Rows.uptoBulk]
theorem length_le {H:Type} (l:List (DataW H)):l.length≤Rows.uptoBulkAll l:=by
 induction l with
 | nil=>simp[Rows.uptoBulkAll]
 | cons x r ih=>have:=one_le x;simp only[Rows.uptoBulkAll,List.length_cons];omega
theorem slice_le {H:Type} (elems spare:List (DataW H)):elems.length+spare.length+1≤Rows.uptoBulk (.slice elems spare):=by
 have h1:=length_le elems
 have h2:=length_le spare
 simp only[Rows.uptoBulk]
 omega
theorem bound {H:Type} {l:List (DataW H)} (hk:Rows.uptoSmall H l=true):Rows.uptoBulkAll l≤1048576:=by
 simpa [Rows.uptoSmall] using hk
end Go.Proofs.YtikencoikigllaaGreatDoor.bulks
namespace Go.Proofs.YtikencoikigllaaGreatDoorW.PrintWords
open Go.RowKit
namespace Kd
section
variable {α:Type} {P:Program} {ops:Array Oper} {o:Oper} {a:Act} {rest:List Oper} {Q:Exit→Act→World→Prop}
theorem R_make0 (d:Kd α) {w0 W:World} (base e:Nat) (hgd:o.guard=none) {N:Tmp} (_hd:o.dst=some N) (t:TypeId) (x y:Operand) (ho:o.op=.makeSlice t x y) (n:Int) (hx:a.eval x=.int .i64 0) (hy:a.eval y=.int .i64 n)
  (ht:P.underlying t=some (.slice e)) (z:Value) (bytes:Nat) (hinfo:(P.info? e).map (fun i=>(i.zero,i.size,i.bytes))=some (some z,d.sz,bytes)) (_hz:z.cells.size=d.sz) (_hs0:0<d.sz) (hb0:0<bytes)
  (z0:α) {ok okp:Nat→Prop} (_hzero:d.M W base okp z0 z.cells.toList) (_hok:∀k,okp k→ok k) (hfresh:ok W.heap.size) (h0:0≤n) (hl:n.toNat*bytes≤281474976710656) (HB:Below base w0 W) (hbase:base≤W.heap.size)
  (h:∀v1 w1,d.R e w1 base ok v1 []→Below base w0 w1→W.grownBy w1 none→(∃b,v1.ownBlock=some b∧W.heap.size≤b)→wpList P ops Q rest (a.put o.dst v1) w1):wpList P ops Q (o::rest) a W:=by
 obtain⟨m,rfl⟩:=Int.eq_ofNat_of_zero_le h0
 simp only[Int.toNat_natCast]at hl
 obtain⟨i0,hi,hzz⟩:=Option.map_eq_some_iff.1 hinfo
 simp only[Prod.mk.injEq]at hzz
 obtain⟨hz0,hz1,hz2⟩:=hzz
 have hm:m≤281474976710656:=Nat.le_trans (Nat.le_mul_of_pos_right _ hb0) hl
 have hr:=run_make (P:=P) W t e i0 z ht hi hz0 .i64 .i64 0 (m:Int) (by omega) (by omega)
  (by
   have h3:((i0.bytes*m:Nat):Int)≤281474976710656:=by rw[hz2,Nat.mul_comm];omega
   rwa [Int.natCast_mul]at h3) (by omega)
 simp only[Int.toNat_natCast,Int.toNat_zero]at hr
 rw[hz1]at hr
 have hrun:(execOp a.eval o).run P W=.ok (.value (.slice (some ⟨W.heap.size,0,none⟩) 0 m)) (W.alloc (.cells (madeCells z.cells (m*d.sz)) e)):=by
  simp[execOp,ho,hx,hy,hr]
 refine event_run hgd hrun (h _ _ ⟨fun k hk=>?_,[],?_,?_⟩ (HB.alloc hbase _) (World.grownBy_alloc W _ none) ⟨W.heap.size,by simp[Value.ownBlock],Nat.le_refl _⟩)
 ·have:W.heap.size=k:=by simpa [Value.ownBlock] using hk
  subst this
  exact hfresh
 ·exact World.ownsRow_made W _ m hbase (by unfold maxLen;omega) (by rw[size_madeCells])
 exact Reps.none _ _
end
end Kd
end Go.Proofs.YtikencoikigllaaGreatDoorW.PrintWords
namespace Go.Proofs.YtikencoikigllaaGreatDoor.Mine
open Go.RowKit Go.Proofs.YtikencoikigllaaGreatDoorW.PrintWords Go.Proofs.YtikencoikigllaaGreatDoorW.PrintLast Go.Proofs.YtikencoikigllaaGreatDoorW.PrintMore
def bits_Add64.f (x y c:Int):Option (Int×Int):=if 0≤x∧0≤y∧0≤c∧c≤1 then some ((x+y+c)%18446744073709551616,(x+y+c)/18446744073709551616) else none
theorem bits_Add64.run {x y c r1 r2:Int} (h:bits_Add64.f x y c=some (r1,r2)):∀w:World,(callFunc 114 #[.int .u64 x,.int .u64 y,.int .u64 c]).run Tryz.prog w=.ok (.value (.tuple #[.int .u64 r1,.int .u64 r2])) w:=by
 intro w
 unfold bits_Add64.f at h
 split at h
 ·rename_i hc
  obtain⟨hx,hy,h0,h1⟩:=hc
  have h2:=Option.some.inj h
  simp only[Prod.mk.injEq]at h2
  obtain⟨rfl,rfl⟩:=h2
  rw[run_callFunc_extern Tryz.func114 (by kernel_rfl) (by kernel_rfl) (by kernel_rfl) (e:=add64Entry) (by kernel_rfl),run_add64 x y c hx hy h0 h1]
  rfl
 cases h
def bits_Sub64.f (x y c:Int):Option (Int×Int):=if 0≤x∧0≤y∧y<18446744073709551616∧0≤c∧c≤1 then some ((x-y-c)%18446744073709551616,if x<y+c then 1 else 0) else none
theorem bits_Sub64.run {x y c r1 r2:Int} (h:bits_Sub64.f x y c=some (r1,r2)):∀w:World,(callFunc 229 #[.int .u64 x,.int .u64 y,.int .u64 c]).run Tryz.prog w=.ok (.value (.tuple #[.int .u64 r1,.int .u64 r2])) w:=by
 intro w
 unfold bits_Sub64.f at h
 split at h
 ·rename_i hc
  obtain⟨hx,hy,hy',h0,h1⟩:=hc
  have h2:=Option.some.inj h
  simp only[Prod.mk.injEq]at h2
  obtain⟨rfl,rfl⟩:=h2
  obtain⟨x,rfl⟩:=Int.eq_ofNat_of_zero_le hx
  obtain⟨y,rfl⟩:=Int.eq_ofNat_of_zero_le hy
  obtain⟨c,rfl⟩:=Int.eq_ofNat_of_zero_le h0
  have e1:(((x+18446744073709551616-y-c)%18446744073709551616:Nat):Int)=((x:Int)-y-c)%18446744073709551616:=by omega
  have e2:((if x<y+c then 1 else 0:Nat):Int)=if(x:Int)<y+c then 1 else 0:=by split<;>split<;>omega
  rw[run_callFunc_extern Tryz.func229 (by kernel_rfl) (by kernel_rfl) (by kernel_rfl) (e:=sub64Entry) (by kernel_rfl),run_sub64 x y c (by omega)]
  rw[←e1,←e2]
  rfl
 cases h
end Go.Proofs.YtikencoikigllaaGreatDoor.Mine
namespace Go.Proofs.YtikencoikigllaaGreatDoor.Mine
open Go.RowKit Go.Proofs.YtikencoikigllaaGreatDoorW.PrintWords Go.Proofs.YtikencoikigllaaGreatDoorW.PrintLast Go.Proofs.YtikencoikigllaaGreatDoorW.PrintMore
theorem minfo59:(Tryz.prog.info? 72).map (fun i=>(i.zero,i.size,i.bytes))=some (some (.int .u64 0),1,8):=by kernel_rfl
def api_Nat_uint64.f (l0:List Int):Option (List Int):=if l0.length<17592186044416 then some l0 else none
set_option maxHeartbeats 1000000 in
theorem api_Nat_uint64.calls (A0:Option Addr) (c0:Nat) (l0:List Int) (r:List Int) (w:World) (hr0:Kd.C (Kd.int .u64) w A0 l0.length l0) (hc0:l0.length≤c0) (h:api_Nat_uint64.f l0=some r) :
  Calls Tryz.prog 126 #[.slice A0 l0.length c0] w fun e w'=>∃v0_:Value,e=.returned (v0_)∧Kd.R (Kd.int .u64) 72 w' w.heap.size (fun _=>True) v0_ r∧Below w.heap.size w w':=by
 unfold api_Nat_uint64.f at h
 split at h
 ·rename_i hlen
  obtain rfl:=Option.some.inj h
  clear h
  have HR0:=Aside0.mk hr0
  have HC0:=Aside0.mk hc0
  have HL:=Aside0.mk hlen
  clear hc0 hlen
  rcases A0 with _|a
  ·have hl:l0=[]:=by
    rcases l0 with _|⟨x,l⟩
    ·rfl
    obtain⟨ad,he,_⟩:=Kd.at_int hr0 0 (by omega) (by simp)
    cases he
   subst hl
   clear hr0
   have hn:=fun(w:World)=>_root_.Go.run_eql_slice_nil (P:=Tryz.prog) w 24 72 none 0 c0 Tryz.underlying24
   go_enter Tryz.func126,Tryz.ntmps126
   go_wp2
   go_ret
   exact⟨_,rfl,Kd.R_nil _ _ _ _ _,Below.refl _ _⟩
  clear hr0
  have hn:=fun(w:World)=>_root_.Go.run_eql_slice_nil (P:=Tryz.prog) w 24 72 (some a) l0.length c0 Tryz.underlying24
  go_enter Tryz.func126,Tryz.ntmps126
  go_wp2_with (first
   | ((with_reducible refine gate_dst (N:=5) rfl ?_);refine Kd.R_lit (Kd.int .u64) _ 72 ?hg (N:=5) ?hd (xs:=([]:List Int)) (inner:=[]) (ok:=fun _=>True) (okp:=fun _=>True) ?hr ?hp (fun _ hk=>hk) trivial (Below.refl _ _) (Nat.le_refl _) (by simp) ?_;(case hd=>rfl);(case hg=>rfl);(case hr=>first|(go_simp;done)|(go_simp;rfl));(case hp=>exact(Reps.none _ _));intro v1 w1 ho hb hg_ hnew_;clear hg_ hnew_;have HO:=Aside0.mk ho;have HB:=Aside0.mk hb;clear ho hb;obtain⟨Ao,co,eo⟩:=Kd.R_slice HO.out;subst eo)
   | ((with_reducible refine gate_builtin (b:=.append) (xs:=#[.tmp 5,.tmp 6]) rfl ?_);at_builtin;refine Kd.R_append_rows (Kd.int .u64) (w0:=w) w.heap.size rfl (.tmp 5) (.tmp 6) 24 72 (.int .u64 0) 8 rfl Tryz.underlying24 minfo59 rfl (by decide) (by omega) (.slice Ao ([]:List Int).length co) [] l0 _ _ _ (fun _=>True) (fun _=>False) rfl rfl ?aO ?aR (fun _ _ h=>h) (fun _ h=>h.elim) ?aF ?aB ?aS ?aL ?_;(case aR=>exact Kd.C_below HR0.out HB.out);(case aB=>exact HB.out);(case aF=>exact fun _ _=>trivial);(case aO=>exact HO.out);(case aS=>exact below_size HB.out);(case aL=>have:=HL.out;simp only[List.length_nil];omega);intro v2 w2 ho hb hg hat;have HO2:=Aside0.mk ho;have HB2:=Aside0.mk hb;clear ho hb hg hat;simp only[List.nil_append]at HO2;obtain⟨Ao2,co2,eo2⟩:=Kd.R_slice HO2.out;subst eo2))
  go_ret
  exact⟨_,rfl,HO2.out,HB2.out⟩
 cases h
def strconv_FormatUint.f (a0 a1:Int):Option ByteArray:=if a1=10 then
 (if a0=0 then some ⟨#[48]⟩ else if a0=1 then some ⟨#[49]⟩ else if a0=2 then some ⟨#[50]⟩ else if a0=3 then some ⟨#[51]⟩ else if a0=4 then some ⟨#[52]⟩ else none) else none
theorem formatUint0 (w:World):Calls Tryz.prog 56 #[.int .u64 0,.int .i64 10] w fun e w'=>e=.returned (.string ⟨#[48]⟩)∧Drawn0 w w':=by
 go_enter Tryz.func56,Tryz.ntmps56
 go_wp2
 go_ret
 exact⟨by first|rfl|(simp;done),by repeat (first|exact Drawn0.refl _|apply Drawn0.step)⟩
theorem formatUint1 (w:World):Calls Tryz.prog 56 #[.int .u64 1,.int .i64 10] w fun e w'=>e=.returned (.string ⟨#[49]⟩)∧Drawn0 w w':=by
 go_enter Tryz.func56,Tryz.ntmps56
 go_wp2
 go_ret
 exact⟨by first|rfl|(simp;done),by repeat (first|exact Drawn0.refl _|apply Drawn0.step)⟩
theorem formatUint2 (w:World):Calls Tryz.prog 56 #[.int .u64 2,.int .i64 10] w fun e w'=>e=.returned (.string ⟨#[50]⟩)∧Drawn0 w w':=by
 go_enter Tryz.func56,Tryz.ntmps56
 go_wp2
 go_ret
 exact⟨by first|rfl|(simp;done),by repeat (first|exact Drawn0.refl _|apply Drawn0.step)⟩
theorem formatUint3 (w:World):Calls Tryz.prog 56 #[.int .u64 3,.int .i64 10] w fun e w'=>e=.returned (.string ⟨#[51]⟩)∧Drawn0 w w':=by
 go_enter Tryz.func56,Tryz.ntmps56
 go_wp2
 go_ret
 exact⟨by first|rfl|(simp;done),by repeat (first|exact Drawn0.refl _|apply Drawn0.step)⟩
theorem formatUint4 (w:World):Calls Tryz.prog 56 #[.int .u64 4,.int .i64 10] w fun e w'=>e=.returned (.string ⟨#[52]⟩)∧Drawn0 w w':=by
 go_enter Tryz.func56,Tryz.ntmps56
 go_wp2
 go_ret
 exact⟨by first|rfl|(simp;done),by repeat (first|exact Drawn0.refl _|apply Drawn0.step)⟩
theorem strconv_FormatUint.calls (a0 a1:Int) (r:ByteArray) (w:World) (h:strconv_FormatUint.f a0 a1=some r) :
  Calls Tryz.prog 56 #[.int .u64 a0,.int .i64 a1] w fun e w'=>e=.returned (.string r)∧Drawn0 w w':=by
 unfold strconv_FormatUint.f at h
 split at h
 ·rename_i h1
  subst h1
  split at h
  ·rename_i h0;subst h0;obtain rfl:=Option.some.inj h;exact formatUint0 w
  split at h
  ·rename_i h0;subst h0;obtain rfl:=Option.some.inj h;exact formatUint1 w
  split at h
  ·rename_i h0;subst h0;obtain rfl:=Option.some.inj h;exact formatUint2 w
  split at h
  ·rename_i h0;subst h0;obtain rfl:=Option.some.inj h;exact formatUint3 w
  split at h
  ·rename_i h0;subst h0;obtain rfl:=Option.some.inj h;exact formatUint4 w
  cases h
 cases h
end Go.Proofs.YtikencoikigllaaGreatDoor.Mine
namespace Go.Proofs
open Go.Shelf
def Tryz.lays156_ren:Go.Shelf.Ren:=⟨fun|156=>59|165=>122|166=>123|169=>125|240=>186|241=>187|276=>240|277=>241|n=>n,fun|31=>91|9=>9|3=>3|4=>4|0=>0|20=>20|72=>179|76=>181|70=>176|37=>177|75=>74|127=>245|164=>284|5=>5|80=>184|n=>n,fun|n=>n⟩
theorem Tryz.lays156:Go.Proofs.Lays.n156 Tryz.prog Tryz.lays156_ren:={
 mixed:=by kernel_rfl
 f156:=Tryz.func59.trans (congrArg some (by kernel_rfl))
 f165:=Tryz.func122.trans (congrArg some (by kernel_rfl))
 f166:=Tryz.func123.trans (congrArg some (by kernel_rfl))
 f169:=Tryz.func125.trans (congrArg some (by kernel_rfl))
 f240:=Tryz.func186.trans (congrArg some (by kernel_rfl))
 f241:=Tryz.func187.trans (congrArg some (by kernel_rfl))
 f276:=Tryz.func240.trans (congrArg some (by kernel_rfl))
 f277:=Tryz.func241.trans (congrArg some (by kernel_rfl))
 t0:=Tryz.underlying0
 a0:=Tryz.isAgg0
 z0:=Tryz.sizeOf0
 v0:=Tryz.zeroValue0
 t3:=Tryz.underlying3
 a3:=Tryz.isAgg3
 z3:=Tryz.sizeOf3
 v3:=Tryz.zeroValue3
 t4:=Tryz.underlying4
 a4:=Tryz.isAgg4
 z4:=Tryz.sizeOf4
 v4:=Tryz.zeroValue4
 t9:=Tryz.underlying9
 a9:=Tryz.isAgg9
 z9:=Tryz.sizeOf9
 v9:=Tryz.zeroValue9
 t20:=Tryz.underlying20
 a20:=Tryz.isAgg20
 z20:=Tryz.sizeOf20
 v20:=Tryz.zeroValue20
 t31:=Tryz.underlying91
 a31:=Tryz.isAgg91
 z31:=Tryz.sizeOf91
 v31:=Tryz.zeroValue91
 t37:=Tryz.underlying177
 a37:=Tryz.isAgg177
 z37:=Tryz.sizeOf177
 v37:=Tryz.zeroValue177
 t70:=Tryz.underlying176
 a70:=Tryz.isAgg176
 z70:=Tryz.sizeOf176
 v70:=Tryz.zeroValue176
 t72:=Tryz.underlying179
 a72:=Tryz.isAgg179
 z72:=Tryz.sizeOf179
 v72:=Tryz.zeroValue179
 t75:=Tryz.underlying74
 a75:=Tryz.isAgg74
 z75:=Tryz.sizeOf74
 v75:=Tryz.zeroValue74
 t76:=Tryz.underlying181
 a76:=Tryz.isAgg181
 z76:=Tryz.sizeOf181
 v76:=Tryz.zeroValue181
 t127:=Tryz.underlying245
 a127:=Tryz.isAgg245
 z127:=Tryz.sizeOf245
 v127:=Tryz.zeroValue245
 t164:=Tryz.underlying284
 a164:=Tryz.isAgg284
 z164:=Tryz.sizeOf284
 v164:=Tryz.zeroValue284}
theorem Tryz.Builder_Extra_156:Builder.Extra Tryz.prog Tryz.lays156_ren:={
 sizeBuilder:=by kernel_rfl
 liesBuilder:=by kernel_rfl
 t5:=Tryz.underlying5
 a5:=Tryz.isAgg5
 z5:=Tryz.sizeOf5
 v5:=Tryz.zeroValue5
 infoByte:=by kernel_rfl
 cellsByte:=by kernel_rfl
 sizeByte:=by kernel_rfl
 neB5:=by decide}
open Go.RowKit in
theorem Tryz.strings_Join_none (a:Option Addr) (c:Nat) (sep:ByteArray) (w:World) :
  Calls Tryz.prog 59 #[.slice a 0 c,.string sep] w fun e w'=>e=.returned (.string ⟨#[]⟩)∧w'=w:=Any.strings_Join_none Tryz.lays156 Tryz.Builder_Extra_156 a c sep w
open Go.RowKit in
theorem Tryz.strings_Join (bk o c:Nat) (xs:List ByteArray) (sep:ByteArray) (w:World) (hcells:∀(j:Nat) x,xs[j]? = some x→w.cell? ⟨bk,o+j,none⟩=some (.string x)) (hbk:bk<w.heap.size) (hN:xs.length≤140737488355328) (hcap:xs.length≤c) (hlen:(Lib.join (xs.map (·.data.toList)) sep.data.toList).length≤140737488355328) :
  Calls Tryz.prog 59 #[.slice (some ⟨bk,o,none⟩) xs.length c,.string sep] w fun e w'=>e=.returned (.string ⟨(Lib.join (xs.map (·.data.toList)) sep.data.toList).toArray⟩)∧Below w.heap.size w w':=Any.strings_Join Tryz.lays156 Tryz.Builder_Extra_156 bk o c xs sep w hcells hbk hN hcap hlen
def Tryz.lays134_ren:Go.Shelf.Ren:=⟨fun|134=>180|129=>188|n=>n,fun|53=>72|3=>3|4=>4|46=>173|5=>5|9=>9|n=>n,fun|n=>n⟩
theorem Tryz.lays134:Go.Proofs.Lays.n134 Tryz.prog Tryz.lays134_ren:={
 mixed:=by kernel_rfl
 f129:=Tryz.func188.trans (congrArg some (by kernel_rfl))
 f134:=Tryz.func180.trans (congrArg some (by kernel_rfl))
 t3:=Tryz.underlying3
 a3:=Tryz.isAgg3
 z3:=Tryz.sizeOf3
 v3:=Tryz.zeroValue3
 t4:=Tryz.underlying4
 a4:=Tryz.isAgg4
 z4:=Tryz.sizeOf4
 v4:=Tryz.zeroValue4
 t5:=Tryz.underlying5
 a5:=Tryz.isAgg5
 z5:=Tryz.sizeOf5
 v5:=Tryz.zeroValue5
 t9:=Tryz.underlying9
 a9:=Tryz.isAgg9
 z9:=Tryz.sizeOf9
 v9:=Tryz.zeroValue9
 t46:=Tryz.underlying173
 a46:=Tryz.isAgg173
 z46:=Tryz.sizeOf173
 v46:=Tryz.zeroValue173
 t53:=Tryz.underlying72
 a53:=Tryz.isAgg72
 z53:=Tryz.sizeOf72
 v53:=Tryz.zeroValue72}
theorem Tryz.bits_LeadingZeros64 (x:Int) (w:World) (h0:0≤x) (h1:x≤18446744073709551615) :
  Calls Tryz.prog 180 #[.int .u64 x] w fun e w'=>e=.returned (.int .i64 (64-(Lib.bitLen x.toNat:Int)))∧w'=w:=Any.bits_LeadingZeros64 Tryz.lays134 x w h0 h1
def Tryz.lays129_ren:Go.Shelf.Ren:=⟨fun|129=>188|n=>n,fun|53=>72|3=>3|4=>4|46=>173|5=>5|9=>9|n=>n,fun|n=>n⟩
theorem Tryz.lays129:Go.Proofs.Lays.n129 Tryz.prog Tryz.lays129_ren:={
 mixed:=by kernel_rfl
 f129:=Tryz.func188.trans (congrArg some (by kernel_rfl))
 t3:=Tryz.underlying3
 a3:=Tryz.isAgg3
 z3:=Tryz.sizeOf3
 v3:=Tryz.zeroValue3
 t4:=Tryz.underlying4
 a4:=Tryz.isAgg4
 z4:=Tryz.sizeOf4
 v4:=Tryz.zeroValue4
 t5:=Tryz.underlying5
 a5:=Tryz.isAgg5
 z5:=Tryz.sizeOf5
 v5:=Tryz.zeroValue5
 t9:=Tryz.underlying9
 a9:=Tryz.isAgg9
 z9:=Tryz.sizeOf9
 v9:=Tryz.zeroValue9
 t46:=Tryz.underlying173
 a46:=Tryz.isAgg173
 z46:=Tryz.sizeOf173
 v46:=Tryz.zeroValue173
 t53:=Tryz.underlying72
 a53:=Tryz.isAgg72
 z53:=Tryz.sizeOf72
 v53:=Tryz.zeroValue72}
theorem Tryz.bits_Len64 (x:Int) (w:World) (h0:0≤x) (h1:x≤18446744073709551615) :
  Calls Tryz.prog 188 #[.int .u64 x] w fun e w'=>e=.returned (.int .i64 (Lib.bitLen x.toNat))∧w'=w:=Any.bits_Len64 Tryz.lays129 x w h0 h1
def Tryz.lays264_ren:Go.Shelf.Ren:=⟨fun|264=>113|n=>n,fun|53=>72|46=>173|n=>n,fun|n=>n⟩
theorem Tryz.lays264:Go.Proofs.Lays.n264 Tryz.prog Tryz.lays264_ren:={
 mixed:=by kernel_rfl
 f264:=Tryz.func113.trans (congrArg some (by kernel_rfl))
 t46:=Tryz.underlying173
 a46:=Tryz.isAgg173
 z46:=Tryz.sizeOf173
 v46:=Tryz.zeroValue173
 t53:=Tryz.underlying72
 a53:=Tryz.isAgg72
 z53:=Tryz.sizeOf72
 v53:=Tryz.zeroValue72}
open Go.RowKit Go.Lib in
theorem Tryz.bits_Mul64 (x y:Nat) (hx:x<18446744073709551616) (hy:y<18446744073709551616) (w:World) :
  Calls Tryz.prog 113 #[.int .u64 x,.int .u64 y] w fun e w'=>e=.returned (.tuple #[.int .u64 ((x*y/18446744073709551616:Nat):Int),.int .u64 ((x*y%18446744073709551616:Nat):Int)])∧w'=w:=Any.bits_Mul64 Tryz.lays264 x y hx hy w
end Go.Proofs
namespace Go.Proofs.YtikencoikigllaaGreatDoor.Mine
open Go.RowKit Go.Proofs.YtikencoikigllaaGreatDoorW.PrintWords Go.Proofs.YtikencoikigllaaGreatDoorW.PrintLast Go.Proofs.YtikencoikigllaaGreatDoorW.PrintMore
def joined (l:List ByteArray) (s:ByteArray):ByteArray:=⟨(Lib.join (l.map (·.data.toList)) s.data.toList).toArray⟩
def strings_Join.f (l:List ByteArray) (s:ByteArray):Option ByteArray:=if(joined l s).size≤140737488355328∧l.length≤140737488355328 then some (joined l s) else none
theorem string_place {w:World} {A:Option Addr} {l:List ByteArray} (h:Kd.C Kd.string w A l.length l) (hl:l≠[]) :
  ∃bk o,A=some ⟨bk,o,none⟩∧bk<w.heap.size∧∀(j:Nat) x,l[j]? = some x→w.cell? ⟨bk,o+j,none⟩=some (.string x):=by
 have h0:0<l.length:=List.length_pos_iff.2 hl
 obtain⟨ad,rfl,hc⟩:=h.2.2 h0
 obtain⟨bk,o,sp⟩:=ad
 have key:∀(j:Nat) x,l[j]? = some x→w.cell? ((⟨bk,o,sp⟩:Addr).add j)=some (.string x):=by
  intro j x hj
  obtain⟨c,hlen,hK,hcell⟩:=hc j x hj
  have hK':c=[.string x]:=hK
  subst hK'
  have:=hcell 0 _ rfl
  rwa [show j*Kd.string.sz+0=j from by show j*1+0=j;omega]at this
 have hsp:sp=none:=by
  have:=key 0 _ (List.getElem?_eq_getElem h0)
  simp only[Addr.add,if_true]at this
  unfold World.cell? at this
  split at this
  ·split at this
   ·cases this
   cases sp with
   | none=>rfl
   | some s=>simp_all
  cases this
 subst hsp
 have key2:∀(j:Nat) x,l[j]? = some x→w.cell? ⟨bk,o+j,none⟩=some (.string x):=by
  intro j x hj
  have:=key j x hj
  simp only[Addr.add]at this
  split at this
  ·rename_i h;subst h;exact this
  exact this
 exact⟨bk,o,rfl,World.block_lt_of_cell? w _ (key2 0 _ (List.getElem?_eq_getElem h0)),key2⟩
theorem strings_Join.calls (A0:Option Addr) (c0:Nat) (l0:List ByteArray) (a1:ByteArray) (r:ByteArray) (w:World) (hr0:Kd.C Kd.string w A0 l0.length l0) (hc0:l0.length≤c0) (h:strings_Join.f l0 a1=some r) :
  Calls Tryz.prog 59 #[.slice A0 l0.length c0,.string a1] w fun e w'=>e=.returned (.string r)∧Below w.heap.size w w':=by
 unfold strings_Join.f at h
 split at h
 ·rename_i hb
  obtain rfl:=Option.some.inj h
  rcases Classical.em (l0=[]) with e|e
  ·subst e
   refine(Tryz.strings_Join_none A0 c0 a1 w).mono ?_
   rintro e w' ⟨rfl,rfl⟩
   exact⟨rfl,Below.refl _ _⟩
  obtain⟨bk,o,rfl,hlt,hcells⟩:=string_place hr0 e
  exact Tryz.strings_Join bk o c0 l0 a1 w hcells hlt hb.2 hc0 (by simpa [joined,ByteArray.size] using hb.1)
 cases h
end Go.Proofs.YtikencoikigllaaGreatDoor.Mine
namespace Go.Proofs.YtikencoikigllaaGreatDoor.Mine
open Go.RowKit Go.Proofs.YtikencoikigllaaGreatDoorW.PrintWords Go.Proofs.YtikencoikigllaaGreatDoorW.PrintLast Go.Proofs.YtikencoikigllaaGreatDoorW.PrintMore
def bits_LeadingZeros64.f (x:Int):Option Int:=if 0≤x∧x≤18446744073709551615 then some (64-(Lib.bitLen x.toNat:Int)) else none
theorem bits_LeadingZeros64.calls (a0:Int) (r:Int) (w:World) (h:bits_LeadingZeros64.f a0=some r) :
  Calls Tryz.prog 180 #[.int .u64 a0] w fun e w'=>e=.returned (.int .i64 r)∧Drawn0 w w':=by
 unfold bits_LeadingZeros64.f at h
 split at h
 ·rename_i hc
  obtain rfl:=Option.some.inj h
  refine(Tryz.bits_LeadingZeros64 a0 w hc.1 hc.2).mono ?_
  rintro e w' ⟨rfl,rfl⟩
  exact⟨rfl,Drawn0.refl _⟩
 cases h
end Go.Proofs.YtikencoikigllaaGreatDoor.Mine
namespace Go.Proofs.YtikencoikigllaaGreatDoor.Mine
open Go.RowKit Go.Proofs.YtikencoikigllaaGreatDoorW.PrintWords Go.Proofs.YtikencoikigllaaGreatDoorW.PrintLast Go.Proofs.YtikencoikigllaaGreatDoorW.PrintMore
def bits_Len64.f (x:Int):Option Int:=if 0≤x∧x≤18446744073709551615 then some (Lib.bitLen x.toNat:Int) else none
theorem bits_Len64.calls (a0:Int) (r:Int) (w:World) (h:bits_Len64.f a0=some r) :
  Calls Tryz.prog 188 #[.int .u64 a0] w fun e w'=>e=.returned (.int .i64 r)∧Drawn0 w w':=by
 unfold bits_Len64.f at h
 split at h
 ·rename_i hc
  obtain rfl:=Option.some.inj h
  refine(Tryz.bits_Len64 a0 w hc.1 hc.2).mono ?_
  rintro e w' ⟨rfl,rfl⟩
  exact⟨rfl,Drawn0.refl _⟩
 cases h
end Go.Proofs.YtikencoikigllaaGreatDoor.Mine
namespace Go.Proofs.YtikencoikigllaaGreatDoor.Mine
open Go.RowKit Go.Proofs.YtikencoikigllaaGreatDoorW.PrintWords Go.Proofs.YtikencoikigllaaGreatDoorW.PrintLast Go.Proofs.YtikencoikigllaaGreatDoorW.PrintMore
class Up (W W':World):Prop where
 below:Below W.heap.size W W'
instance Up.rfl_ {W:World}:Up W W:=⟨Below.refl _ _⟩
instance Up.alloc_ {W W':World} [h:Up W W'] (o:Obj):Up W (W'.alloc o):=⟨h.below.alloc h.below.size o⟩
instance Up.drewN_ {W W':World} [h:Up W W'] (n:Nat):Up W (W'.drewN n):=⟨pw_below_drewN h.below n⟩
instance Up.drew_ {W W':World} [h:Up W W']:Up W W'.drew:=⟨below_drew h.below⟩
section
variable {w W W' w1:World} {g g' k:Nat} {o:Obj} [u:Up W W']
include u
theorem kbu (h:W.heap[g]? = some o):W'.heap[g]? = some o:=blk_below h u.below
theorem khu (h:Below w.heap.size w W):Below w.heap.size w W':=h.trans (u.below.mono h.size)
theorem kbb (h:Aside0 (W.heap[g]? = some o)) (hb:Below W'.heap.size W' w1):Aside0 (w1.heap[g]? = some o):=⟨blk_below (kbu h.out) hb⟩
theorem kbs (h:Aside0 (Below w.heap.size w W)) (hb:Below W'.heap.size W' w1):Aside0 (Below w.heap.size w w1):=⟨below_step (khu h.out) hb⟩
theorem kbz (hg:g'=W'.heap.size) (h:Aside0 (Below w.heap.size w W)):Aside0 (w.heap.size≤g'):=⟨by rw[hg];exact below_size (khu h.out)⟩
theorem knl (hg:g'=W'.heap.size) (h:Aside0 (W.heap[g]? = some o)):Aside0 (g≠g'):=⟨by rw[hg];exact Nat.ne_of_lt (blk_lt (kbu (W':=W') h.out))⟩
theorem kng (hg:g'=W'.heap.size) (h:Aside0 (W.heap[g]? = some o)):Aside0 (g'≠g):=⟨by rw[hg];exact Nat.ne_of_gt (blk_lt (kbu (W':=W') h.out))⟩
theorem kfb (h:Aside0 (W.heap[g]? = some o)) (hn:W'.heap.size≤k):k≠g:=Kd.freshB (kbu h.out) k hn
theorem koe (hw:Aside0 (w.heap.size≤g)) (h:Aside0 (W.heap[g]? = some o)) (hk:k<w.heap.size∨W'.heap.size≤k):k≠g:=Or.elim hk (fun hs e=>Nat.not_le.2 hs (by rw[e];exact hw.out)) (fun hn=>kfb h hn)
variable {α:Type} {d:Kd α} {e base n:Nat} {ok:Nat→Prop} {v:Value} {xs:List α} {A:Option Addr}
theorem kvu (h:Kd.V d e W base ok v xs):Kd.V d e W' base ok v xs:=Kd.V_below h u.below
theorem kvb (h:Aside0 (Kd.V d e W base ok v xs)) (hb:Below W'.heap.size W' w1):Aside0 (Kd.V d e w1 base ok v xs):=⟨Kd.V_below (kvu h.out) hb⟩
theorem kru (h:d.R e W base ok v xs):d.R e W' base ok v xs:=Kd.R_below h u.below
theorem krb (h:Aside0 (d.R e W base ok v xs)) (hb:Below W'.heap.size W' w1):Aside0 (d.R e w1 base ok v xs):=⟨Kd.R_below (kru h.out) hb⟩
end
end Go.Proofs.YtikencoikigllaaGreatDoor.Mine
namespace Go.Proofs.YtikencoikigllaaGreatDoor.Mine
open Go Go.RowKit Go.Proofs.YtikencoikigllaaGreatDoorW.PrintWords Go.Proofs.YtikencoikigllaaGreatDoorW.PrintLast Go.Proofs.YtikencoikigllaaGreatDoorW.PrintMore
def bmL:Nat→Nat→List Bool
  | 0,_=>[]
  | n+1,m=>Nat.beq (Nat.mod m 2) 1::bmL n (Nat.div m 2)
def bm_ (n m:Nat):Array Bool:=⟨bmL n m⟩
section
variable {P:Program} {ops:Array Oper} {Q:Exit→Act→World→Prop} {md:Region.Mode} {S:World→Prop} {ds:List Nat}
theorem pu_ {oi:Oper} {fuel:Nat} {l:Array Bool} {a:Act} {w:World} (i:Nat) (N:Tmp) (v:Value) (l':Array Bool) (hi:ops[i]? = some oi) (hN:oi.dst=some N) (hc:anyB md ops l l' i=true)
 (hQ:∀c a w,Q (.panic c) (a.put oi.dst v) w→Q (.panic c) a w) (h1:Region.wanted oi (yielded ops a.tmps)=true) (h2:∀w,(execOp a.eval oi).run P w=.ok (.value v) w) (a':Act) (ha:a.put (some N) v=a')
 (h:wpAnyLast P md ops Q S ds fuel l' a' w):wpAnyLast P md ops Q S ds (fuel+1) l a w:=pure_ l' hi hN hc hQ (Or.inl ⟨h1,h2⟩) ha h
theorem tk_ {oi:Oper} {fuel:Nat} {l:Array Bool} {a:Act} {w:World} (i:Nat) (N:Tmp) (v:Value) (l':Array Bool) (hi:ops[i]? = some oi) (hN:oi.dst=some N) (hc:takeB md ops ds l l' i=true)
 (hQ:∀c a w,Q (.panic c) (a.put oi.dst v) w→Q (.panic c) a w) (h1:Region.wanted oi (yielded ops a.tmps)=true) (h2:∀w,S w→(execOp a.eval oi).run P w=.ok (.value v) w) (hS:S w) (a':Act) (ha:a.put (some N) v=a')
 (h:wpAnyLast P md ops Q S ds fuel l' a' w):wpAnyLast P md ops Q S ds (fuel+1) l a w:=take_ l' hi hN hc hQ (Or.inl ⟨h1,h2⟩) hS ha h
theorem gd {rest:List Oper} {o:Oper} {a:Act} {W:World} (N:Tmp) (_hN:o.dst=some N) (h:wpList P ops Q (o::rest) a W):wpList P ops Q (o::rest) a W:=h
theorem gs {rest:List Oper} {o:Oper} {a:Act} {W:World} (t:TypeId) (p v:Tmp) (_ho:o.op=.store t (.tmp p) (.tmp v)) (h:wpList P ops Q (o::rest) a W):wpList P ops Q (o::rest) a W:=h
end
theorem hv.{u} {α:Type u} {l l' m:List α} {n:Nat} {x:Option α} (h:Aside0 (l=l')) (e:(l'++m)[n]? = x):(l++m)[n]? = x:=by rw[h.out];exact e
theorem lb {a b:Nat} (h:Nat.ble a b=true):a≤b:=Nat.le_of_ble_eq_true h
theorem kss {α:Type}:(∀(xs:List α) (i:Nat) (a:α),xs.toArray.setIfInBounds i a=(xs.set i a).toArray)∧(∀(xs:List α) (x a:α),(x::xs).set 0 a=a::xs)∧(∀(xs:List α) (x a:α) (i:Nat),(x::xs).set (i+1) a=x::xs.set i a):=
 ⟨fun _ _ _=>by simp,fun _ _ _=>rfl,fun _ _ _ _=>rfl⟩
section
variable {P:Program} {ops:Array Oper} {Q:Exit→Act→World→Prop} {md:Region.Mode} {S:World→Prop} {ds:List Nat}
theorem kgo {oi:Oper} {N:Option Tmp} {a:Act} {w:World} {K:Act→World→Prop} {f:FuncId} {fn:Func} {ar:Array Operand} {ts:Array TypeId} (hf:P.funcs[f]? = some fn) (args:Array Value)
  (hw:Region.wanted oi (yielded ops a.tmps)=true) (hN:oi.dst=N) (hop:oi.op=.call {callee:=.value (.func f),args:=ar,argTypes:=ts})
  (h:Calls P f args w fun e w'=>∃v,e=.returned v∧K (a.put N v) w') (hargs:ar.map a.eval=args:=by(try simp only[List.map_toArray,List.map_cons,List.map_nil]);first|done|rfl|(simp only[List.length_drop,List.length_take];rfl)) (hname:(fn.name == "runtime.NumGoroutine")=false:=by kernel_rfl) (hb:fn.body.isSome=true:=by rfl):if Region.wanted oi (yielded ops a.tmps)=true then Oper.wp P oi a w K Q else K (a.put N undef) w:=
 goes_ hf hname hb args hw hN hop hargs h
theorem kgl {rest:List Oper} {oi:Oper} {a:Act} {w:World} (N:Option Tmp) (hd:oi.dst=N) (hg:oi.guard=none) {f:FuncId} {fn:Func} {ar:Array Operand} {ts:Array TypeId} (hf:P.funcs[f]? = some fn) (args:Array Value)
  (hop:oi.op=.call {callee:=.value (.func f),args:=ar,argTypes:=ts})
  (h:Calls P f args w fun e w'=>∃v,e=.returned v∧wpList P ops Q rest (a.put N v) w') (hargs:ar.map a.eval=args:=by(try simp only[List.map_toArray,List.map_cons,List.map_nil]);first|done|rfl|(simp only[List.length_drop,List.length_take];rfl)) (hname:(fn.name == "runtime.NumGoroutine")=false:=by kernel_rfl) (hb:fn.body.isSome=true:=by rfl):wpList P ops Q (oi::rest) a w:=
 goesL_ N hd hg hf hname hb args hop hargs h
theorem kbe {rest:List Oper} {o:Oper} {a:Act} {W:World} (N:Tmp) (cs:Array Value) (t:TypeId)
  (h:∀g,g=W.heap.size→∀w1,w1.heap[g]? = some (.cells cs t (0,0))→Below W.heap.size W w1→wpList P ops Q rest (a.put o.dst (.pointer (some ⟨g,0,none⟩))) w1)
  (hd:o.dst=some N:=by rfl) (hgd:o.guard=none:=by rfl) (hrun:(execOp a.eval o).run P W=.ok (.value (.pointer (some ⟨W.heap.size,0,none⟩))) (W.alloc (.cells cs t (0,0))):=by first|(go_simp;done)|(go_simp;rfl)):wpList P ops Q (o::rest) a W:=
 box_event hgd hd hrun h
end
class UpO (W:outParam World) (W':World):Prop where
 below:Below W.heap.size W W'
instance (priority:=low) UpO.rfl_ {W:World}:UpO W W:=⟨Below.refl _ _⟩
instance UpO.alloc_ {W W':World} [h:UpO W W'] (o:Obj):UpO W (W'.alloc o):=⟨h.below.alloc h.below.size o⟩
instance UpO.drewN_ {W W':World} [h:UpO W W'] (n:Nat):UpO W (W'.drewN n):=⟨pw_below_drewN h.below n⟩
instance UpO.drew_ {W W':World} [h:UpO W W']:UpO W W'.drew:=⟨below_drew h.below⟩
theorem kfa {W W':World} [u:UpO W W'] {g:Nat} {t:TypeId} {cs:Array Value} {p:Addr} {v:Value} (hp:Aside0 (g≠p.block)) (h:W.heap[g]? = some (.cells cs t (0,0))):(W'.setCell p v).heap[g]? = some (.cells cs t (0,0)):=blk_far (blk_below h u.below) hp.out v
theorem kpu {W W':World} [u:UpO W W'] {g:Nat} {t:TypeId} (cs:Array Value) {cs':Array Value} (i:Nat) {v:Value} (h:W.heap[g]? = some (.cells cs t (0,0))) (e:cs.setIfInBounds i v=cs':=by rfl):(W'.setCell ⟨g,i,none⟩ v).heap[g]? = some (.cells cs' t (0,0)):=blk_put (blk_below h u.below) i v e
end Go.Proofs.YtikencoikigllaaGreatDoor.Mine
namespace Go.Proofs.YtikencoikigllaaGreatDoor.Mine
open Go.RowKit Go.Proofs.YtikencoikigllaaGreatDoorW.PrintWords Go.Proofs.YtikencoikigllaaGreatDoorW.PrintLast Go.Proofs.YtikencoikigllaaGreatDoorW.PrintMore
def strings_CutPrefixG.f (s p:ByteArray):Option (ByteArray×Bool):=some (⟨(Lib.trimPrefix s.data.toList p.data.toList).toArray⟩,Lib.hasPrefix s.data.toList p.data.toList)
def strings_TrimG.f (s c:ByteArray):Option ByteArray:=if s.size≤9223372036854775807∧c=⟨#[48,49,50,51,52,53,54,55,56,57]⟩ then some ⟨(Lib.trimS s.data.toList [48,49,50,51,52,53,54,55,56,57]).toArray⟩ else none
def strings_TrimLeftG.f (s c:ByteArray):Option ByteArray:=if c=⟨#[48]⟩ then some ⟨(Lib.trimLeftS s.data.toList [48]).toArray⟩ else none
def strconv_ParseUintG.f (s:ByteArray) (b z:Int):Option (Int×Option Int):=if b=10∧z=64∧s.size≤9223372036854775806∧s.data.toList≠[] then(match Lib.parseUint10 0 s.data.toList with|.ok n=>some ((n:Int),none)|_=>none) else none
end Go.Proofs.YtikencoikigllaaGreatDoor.Mine
namespace Go.Proofs.YtikencoikigllaaGreatDoor.PRy
open Go.RowKit Go.Proofs.YtikencoikigllaaGreatDoorW.PrintWords Go.Proofs.YtikencoikigllaaGreatDoorW.PrintLast Go.Proofs.YtikencoikigllaaGreatDoorW.PrintMore
open Go.Proofs.YtikencoikigllaaGreatDoor.Mine
attribute [local go_sem] max2_int min2_int max_two min_two max_three min_three max_four min_four
def errW:Option Int→Value
 | none=>.nilIface
 | some c=>.iface 233 (.int .i64 c)
theorem errW_none:errW none=.nilIface:=rfl
theorem errW_some (c:Int):errW (some c)=.iface 233 (.int .i64 c):=rfl
theorem info9:(Tryz.prog.info? 9).map (fun i=>(i.zero,i.size,i.bytes))=some (some (.string ⟨#[]⟩),1,16):=by kernel_rfl
theorem info72:(Tryz.prog.info? 72).map (fun i=>(i.zero,i.size,i.bytes))=some (some (.int .u64 0),1,8):=by kernel_rfl
theorem info103:(Tryz.prog.info? 103).map (fun i=>(i.zero,i.size,i.bytes))=some (some (.agg #[(.bool false),(.slice none 0 0),(.bool false),(.slice none 0 0)]),4,64):=by kernel_rfl
theorem info115:(Tryz.prog.info? 115).map (fun i=>(i.zero,i.size,i.bytes))=some (some (.int .u16 0),1,2):=by kernel_rfl
structure S26 where
 f0:Bool
 f1:(List Int)
def z26:S26:=⟨false,([]:List Int)⟩
def k26:Kd S26:=Kd.iso (Kd.pair Kd.bool (Kd.slice 72 (Kd.int .u64))) (fun x:S26=>(x.f0,x.f1))
theorem k26_heap:Kd.Heap k26:=Kd.heap_iso _ (Kd.heap_pair Kd.heap_bool (Kd.heap_slice 72 (Kd.heap_int .u64)))
theorem k26_open {w:World} {x:S26} {cs:List Value} (h:k26.K w x cs):∃A1 c1,cs=[.bool x.f0,.slice A1 x.f1.length c1]∧x.f1.length≤c1∧(Kd.int .u64).C w A1 x.f1.length x.f1:=by
 obtain⟨_,_,rfl,rfl,⟨A1,c1,rfl,l1,g1⟩⟩:=h
 exact⟨A1,c1,rfl,l1,g1⟩
theorem k26_mk (w:World) (x:S26) {A1:Option Addr} {c1:Nat} (l1:x.f1.length≤c1) (g1:(Kd.int .u64).C w A1 x.f1.length x.f1):k26.K w x [.bool x.f0,.slice A1 x.f1.length c1]:=⟨[.bool x.f0],[.slice A1 x.f1.length c1],rfl,rfl,⟨A1,c1,rfl,l1,g1⟩⟩
def rd_T26 (xs:List S26) (i:Int):S26:=xs.getD i.toNat z26
theorem at_T26 {w:World} {A:Option Addr} {n:Nat} {xs:List S26} (h:Kd.C k26 w A n xs) (i:Int) (h0:0≤i) (h1:i<n):∃ad A1 c1,A=some ad∧w.cell? (ad.add (i.toNat*2))=some (.bool (rd_T26 xs i).f0)∧w.cell? ⟨(ad.add (i.toNat*2)).block,(ad.add (i.toNat*2)).off+1,none⟩=some (.slice A1 (rd_T26 xs i).f1.length c1)∧(rd_T26 xs i).f1.length≤c1∧(Kd.int .u64).C w A1 (rd_T26 xs i).f1.length (rd_T26 xs i).f1:=by
 obtain⟨ad,c,e,_,hK,hc0⟩:=Kd.C_get h z26 i h0 h1
 have hc:∀j u,c[j]? = some u→w.cell? (ad.add (i.toNat*2+j))=some u:=hc0
 obtain⟨A1,c1,rfl,l1,g1⟩:=k26_open hK
 exact⟨ad,A1,c1,e,hc 0 _ rfl,by rw[←add_field _ _ 1 (by omega)];exact hc 1 _ rfl,l1,g1⟩
structure S39 where
 f0:S26
 f1:(List Int)
def z39:S39:=⟨z26,([]:List Int)⟩
def k39:Kd S39:=Kd.iso (Kd.pair k26 (Kd.slice 72 (Kd.int .u64))) (fun x:S39=>(x.f0,x.f1))
theorem k39_heap:Kd.Heap k39:=Kd.heap_iso _ (Kd.heap_pair k26_heap (Kd.heap_slice 72 (Kd.heap_int .u64)))
theorem k39_open {w:World} {x:S39} {cs:List Value} (h:k39.K w x cs):∃A1 c1 A2 c2,cs=[.bool x.f0.f0,.slice A1 x.f0.f1.length c1,.slice A2 x.f1.length c2]∧x.f0.f1.length≤c1∧(Kd.int .u64).C w A1 x.f0.f1.length x.f0.f1∧x.f1.length≤c2∧(Kd.int .u64).C w A2 x.f1.length x.f1:=by
 obtain⟨_,_,rfl,s0,⟨A2,c2,rfl,l2,g2⟩⟩:=h
 obtain⟨A1,c1,rfl,l1,g1⟩:=k26_open s0
 exact⟨A1,c1,A2,c2,rfl,l1,g1,l2,g2⟩
theorem k39_mk (w:World) (x:S39) {A1:Option Addr} {c1:Nat} (l1:x.f0.f1.length≤c1) (g1:(Kd.int .u64).C w A1 x.f0.f1.length x.f0.f1) {A2:Option Addr} {c2:Nat} (l2:x.f1.length≤c2) (g2:(Kd.int .u64).C w A2 x.f1.length x.f1):k39.K w x [.bool x.f0.f0,.slice A1 x.f0.f1.length c1,.slice A2 x.f1.length c2]:=⟨[.bool x.f0.f0,.slice A1 x.f0.f1.length c1],[.slice A2 x.f1.length c2],rfl,(k26_mk w x.f0 l1 g1),⟨A2,c2,rfl,l2,g2⟩⟩
theorem k39_openF {W:World} {ok:Nat→Prop} {x:S39} {cs:List Value} (h:Kd.FK k39 W ok x cs):∃A1 c1 A2 c2,cs=[.bool x.f0.f0,.slice A1 x.f0.f1.length c1,.slice A2 x.f1.length c2]∧x.f0.f1.length≤c1∧Kd.F (Kd.int .u64) W ok A1 x.f0.f1.length x.f0.f1∧x.f1.length≤c2∧Kd.F (Kd.int .u64) W ok A2 x.f1.length x.f1:=by
 obtain⟨A1,c1,A2,c2,rfl,l1,_,l2,_⟩:=k39_open (Kd.FK_now h)
 exact⟨A1,c1,A2,c2,rfl,l1,(fun W' hW=>by obtain⟨A1_,c1_,A2_,c2_,he,l1_,g1_,l2_,g2_⟩:=k39_open (h W' hW);injection (Option.some.inj (show some (Value.slice A1 x.f0.f1.length c1)=some (Value.slice A1_ x.f0.f1.length c1_) from congrArg (fun l=>l[1]?) he)) with ha_ _ _;rw[ha_];exact g1_),l2,(fun W' hW=>by obtain⟨A1_,c1_,A2_,c2_,he,l1_,g1_,l2_,g2_⟩:=k39_open (h W' hW);injection (Option.some.inj (show some (Value.slice A2 x.f1.length c2)=some (Value.slice A2_ x.f1.length c2_) from congrArg (fun l=>l[2]?) he)) with ha_ _ _;rw[ha_];exact g2_)⟩
theorem k39_mkF (W:World) (ok:Nat→Prop) (x:S39) {A1:Option Addr} {c1:Nat} (l1:x.f0.f1.length≤c1) (g1:Kd.F (Kd.int .u64) W ok A1 x.f0.f1.length x.f0.f1) {A2:Option Addr} {c2:Nat} (l2:x.f1.length≤c2) (g2:Kd.F (Kd.int .u64) W ok A2 x.f1.length x.f1):Kd.FK k39 W ok x [.bool x.f0.f0,.slice A1 x.f0.f1.length c1,.slice A2 x.f1.length c2]:=fun W2 hW=>k39_mk W2 x l1 (g1 W2 hW) l2 (g2 W2 hW)
def rd_T39 (xs:List S39) (i:Int):S39:=xs.getD i.toNat z39
theorem at_T39 {w:World} {A:Option Addr} {n:Nat} {xs:List S39} (h:Kd.C k39 w A n xs) (i:Int) (h0:0≤i) (h1:i<n):∃ad A1 c1 A2 c2,A=some ad∧w.cell? (ad.add (i.toNat*3))=some (.bool (rd_T39 xs i).f0.f0)∧w.cell? ⟨(ad.add (i.toNat*3)).block,(ad.add (i.toNat*3)).off+1,none⟩=some (.slice A1 (rd_T39 xs i).f0.f1.length c1)∧w.cell? ⟨(ad.add (i.toNat*3)).block,(ad.add (i.toNat*3)).off+2,none⟩=some (.slice A2 (rd_T39 xs i).f1.length c2)∧(rd_T39 xs i).f0.f1.length≤c1∧(Kd.int .u64).C w A1 (rd_T39 xs i).f0.f1.length (rd_T39 xs i).f0.f1∧(rd_T39 xs i).f1.length≤c2∧(Kd.int .u64).C w A2 (rd_T39 xs i).f1.length (rd_T39 xs i).f1:=by
 obtain⟨ad,c,e,_,hK,hc0⟩:=Kd.C_get h z39 i h0 h1
 have hc:∀j u,c[j]? = some u→w.cell? (ad.add (i.toNat*3+j))=some u:=hc0
 obtain⟨A1,c1,A2,c2,rfl,l1,g1,l2,g2⟩:=k39_open hK
 exact⟨ad,A1,c1,A2,c2,e,hc 0 _ rfl,by rw[←add_field _ _ 1 (by omega)];exact hc 1 _ rfl,by rw[←add_field _ _ 2 (by omega)];exact hc 2 _ rfl,l1,g1,l2,g2⟩
structure S101 where
 f0:S26
def z101:S101:=⟨z26⟩
def k101:Kd S101:=Kd.iso k26 (fun x:S101=>x.f0)
theorem k101_open {w:World} {x:S101} {cs:List Value} (h:k101.K w x cs):∃A1 c1,cs=[.bool x.f0.f0,.slice A1 x.f0.f1.length c1]∧x.f0.f1.length≤c1∧(Kd.int .u64).C w A1 x.f0.f1.length x.f0.f1:=by
 have s0:_:=h
 obtain⟨A1,c1,rfl,l1,g1⟩:=k26_open s0
 exact⟨A1,c1,rfl,l1,g1⟩
theorem k101_mk (w:World) (x:S101) {A1:Option Addr} {c1:Nat} (l1:x.f0.f1.length≤c1) (g1:(Kd.int .u64).C w A1 x.f0.f1.length x.f0.f1):k101.K w x [.bool x.f0.f0,.slice A1 x.f0.f1.length c1]:=(k26_mk w x.f0 l1 g1)
structure S103 where
 f0:S101
 f1:S101
def z103:S103:=⟨z101,z101⟩
def k103:Kd S103:=Kd.iso (Kd.pair k101 k101) (fun x:S103=>(x.f0,x.f1))
theorem k103_open {w:World} {x:S103} {cs:List Value} (h:k103.K w x cs):∃A1 c1 A3 c3,cs=[.bool x.f0.f0.f0,.slice A1 x.f0.f0.f1.length c1,.bool x.f1.f0.f0,.slice A3 x.f1.f0.f1.length c3]∧x.f0.f0.f1.length≤c1∧(Kd.int .u64).C w A1 x.f0.f0.f1.length x.f0.f0.f1∧x.f1.f0.f1.length≤c3∧(Kd.int .u64).C w A3 x.f1.f0.f1.length x.f1.f0.f1:=by
 obtain⟨_,_,rfl,s0,s2⟩:=h
 obtain⟨A1,c1,rfl,l1,g1⟩:=k101_open s0
 obtain⟨A3,c3,rfl,l3,g3⟩:=k101_open s2
 exact⟨A1,c1,A3,c3,rfl,l1,g1,l3,g3⟩
theorem k103_mk (w:World) (x:S103) {A1:Option Addr} {c1:Nat} (l1:x.f0.f0.f1.length≤c1) (g1:(Kd.int .u64).C w A1 x.f0.f0.f1.length x.f0.f0.f1) {A3:Option Addr} {c3:Nat} (l3:x.f1.f0.f1.length≤c3) (g3:(Kd.int .u64).C w A3 x.f1.f0.f1.length x.f1.f0.f1):k103.K w x [.bool x.f0.f0.f0,.slice A1 x.f0.f0.f1.length c1,.bool x.f1.f0.f0,.slice A3 x.f1.f0.f1.length c3]:=⟨[.bool x.f0.f0.f0,.slice A1 x.f0.f0.f1.length c1],[.bool x.f1.f0.f0,.slice A3 x.f1.f0.f1.length c3],rfl,(k101_mk w x.f0 l1 g1),(k101_mk w x.f1 l3 g3)⟩
theorem k103_openF {W:World} {ok:Nat→Prop} {x:S103} {cs:List Value} (h:Kd.FK k103 W ok x cs):∃A1 c1 A3 c3,cs=[.bool x.f0.f0.f0,.slice A1 x.f0.f0.f1.length c1,.bool x.f1.f0.f0,.slice A3 x.f1.f0.f1.length c3]∧x.f0.f0.f1.length≤c1∧Kd.F (Kd.int .u64) W ok A1 x.f0.f0.f1.length x.f0.f0.f1∧x.f1.f0.f1.length≤c3∧Kd.F (Kd.int .u64) W ok A3 x.f1.f0.f1.length x.f1.f0.f1:=by
 obtain⟨A1,c1,A3,c3,rfl,l1,_,l3,_⟩:=k103_open (Kd.FK_now h)
 exact⟨A1,c1,A3,c3,rfl,l1,(fun W' hW=>by obtain⟨A1_,c1_,A3_,c3_,he,l1_,g1_,l3_,g3_⟩:=k103_open (h W' hW);injection (Option.some.inj (show some (Value.slice A1 x.f0.f0.f1.length c1)=some (Value.slice A1_ x.f0.f0.f1.length c1_) from congrArg (fun l=>l[1]?) he)) with ha_ _ _;rw[ha_];exact g1_),l3,(fun W' hW=>by obtain⟨A1_,c1_,A3_,c3_,he,l1_,g1_,l3_,g3_⟩:=k103_open (h W' hW);injection (Option.some.inj (show some (Value.slice A3 x.f1.f0.f1.length c3)=some (Value.slice A3_ x.f1.f0.f1.length c3_) from congrArg (fun l=>l[3]?) he)) with ha_ _ _;rw[ha_];exact g3_)⟩
theorem k103_mkF (W:World) (ok:Nat→Prop) (x:S103) {A1:Option Addr} {c1:Nat} (l1:x.f0.f0.f1.length≤c1) (g1:Kd.F (Kd.int .u64) W ok A1 x.f0.f0.f1.length x.f0.f0.f1) {A3:Option Addr} {c3:Nat} (l3:x.f1.f0.f1.length≤c3) (g3:Kd.F (Kd.int .u64) W ok A3 x.f1.f0.f1.length x.f1.f0.f1):Kd.FK k103 W ok x [.bool x.f0.f0.f0,.slice A1 x.f0.f0.f1.length c1,.bool x.f1.f0.f0,.slice A3 x.f1.f0.f1.length c3]:=fun W2 hW=>k103_mk W2 x l1 (g1 W2 hW) l3 (g3 W2 hW)
def rd_T103 (xs:List S103) (i:Int):S103:=xs.getD i.toNat z103
theorem at_T103 {w:World} {A:Option Addr} {n:Nat} {xs:List S103} (h:Kd.C k103 w A n xs) (i:Int) (h0:0≤i) (h1:i<n):∃ad A1 c1 A3 c3,A=some ad∧w.cell? (ad.add (i.toNat*4))=some (.bool (rd_T103 xs i).f0.f0.f0)∧w.cell? ⟨(ad.add (i.toNat*4)).block,(ad.add (i.toNat*4)).off+1,none⟩=some (.slice A1 (rd_T103 xs i).f0.f0.f1.length c1)∧w.cell? ⟨(ad.add (i.toNat*4)).block,(ad.add (i.toNat*4)).off+2,none⟩=some (.bool (rd_T103 xs i).f1.f0.f0)∧w.cell? ⟨(ad.add (i.toNat*4)).block,(ad.add (i.toNat*4)).off+3,none⟩=some (.slice A3 (rd_T103 xs i).f1.f0.f1.length c3)∧(rd_T103 xs i).f0.f0.f1.length≤c1∧(Kd.int .u64).C w A1 (rd_T103 xs i).f0.f0.f1.length (rd_T103 xs i).f0.f0.f1∧(rd_T103 xs i).f1.f0.f1.length≤c3∧(Kd.int .u64).C w A3 (rd_T103 xs i).f1.f0.f1.length (rd_T103 xs i).f1.f0.f1:=by
 obtain⟨ad,c,e,_,hK,hc0⟩:=Kd.C_get h z103 i h0 h1
 have hc:∀j u,c[j]? = some u→w.cell? (ad.add (i.toNat*4+j))=some u:=hc0
 obtain⟨A1,c1,A3,c3,rfl,l1,g1,l3,g3⟩:=k103_open hK
 exact⟨ad,A1,c1,A3,c3,e,hc 0 _ rfl,by rw[←add_field _ _ 1 (by omega)];exact hc 1 _ rfl,by rw[←add_field _ _ 2 (by omega)];exact hc 2 _ rfl,by rw[←add_field _ _ 3 (by omega)];exact hc 3 _ rfl,l1,g1,l3,g3⟩
def whole_trimmed.l0:Nat→List Int→Int→Option (List Int)
 | 0,_,_=>none
 | k+1,x0,x3=>if x3>0 then(if 0≤(wrap64 (x3-1)) then(if(wrap64 (x3-1))<(x0.length:Int) then(if(rd x0 (wrap64 (x3-1)))=0 then(whole_trimmed.l0 k x0 (wrap64 (x3-1))) else(if 0≤x3 then(if x3≤(x0.length:Int) then(some (x0.take (x3:Int).toNat)) else(none)) else(none))) else(none)) else(none)) else(if 0≤x3 then(if x3≤(x0.length:Int) then(some (x0.take (x3:Int).toNat)) else(none)) else(none))
def whole_trimmed.f (k:Nat) (l0:List Int):Option (List Int):=whole_trimmed.l0 k l0 (l0.length:Int)
theorem whole_trimmed.mono_l:∀k,(∀y0 y1,LeO (whole_trimmed.l0 k y0 y1) (whole_trimmed.l0 (k+1) y0 y1))
 | 0=>fun _ _ r h=>by simp[whole_trimmed.l0]at h
 | k+1=>by
  have ih0:=whole_trimmed.mono_l k
  intro y0 y1
  unfold whole_trimmed.l0
  repeat' first
  | (with_reducible first|exact ih0 _ _|exact LeO.refl _|exact LeO.none _|refine LeO.ite ?_ ?_|refine LeO.bind ?_ (fun _=>?_))
  | exact ih0 _ _
  | exact LeO.none _
  | refine LeO.ite ?_ ?_
  | refine LeO.bind ?_ (fun _=>?_)
theorem whole_trimmed.mono:∀a0 k,LeO (whole_trimmed.f k a0) (whole_trimmed.f (k+1) a0):=by
 intro a0 k
 have ih0:=whole_trimmed.mono_l k
 unfold whole_trimmed.f
 repeat' first
   | (with_reducible first|exact ih0 _ _|exact LeO.refl _|exact LeO.none _|refine LeO.ite ?_ ?_|refine LeO.bind ?_ (fun _=>?_))
   | exact ih0 _ _
   | exact LeO.none _
   | refine LeO.ite ?_ ?_
   | refine LeO.bind ?_ (fun _=>?_)
theorem whole_trimmed.calls (k:Nat) (P0_:Nat→Prop) (A0:Option Addr) (c0:Nat) (l0:List Int) (r:List Int) (w:World) (hs0:Kd.V (Kd.int .u64) 72 w w.heap.size (fun k_=>P0_ k_) (.slice A0 l0.length c0) l0) (h:whole_trimmed.f k l0=some r) :
  Calls Tryz.prog 46 #[.slice A0 l0.length c0] w fun e w'=>∃v0_:Value,e=.returned (v0_)∧Kd.V (Kd.int .u64) 72 w' w.heap.size (fun k_=>(P0_ k_∨w.heap.size≤k_)) v0_ r∧Below w.heap.size w w':=by
 have HO0:=Aside0.mk (show Kd.V (Kd.int .u64) 72 w w.heap.size (fun k_=>(P0_ k_∨w.heap.size≤k_)) (.slice A0 l0.length c0) l0 from Kd.V_mono hs0 (fun k_ hk=>.inl hk))
 have HB:=Aside0.mk (Below.refl w.heap.size w)
 have H:(whole_trimmed.l0 k l0 (l0.length:Int))=some r:=h
 clear h
 have H':=Aside0.mk H
 clear H
 go_enter Tryz.func46,Tryz.ntmps46
 go_wp2
 go_loopg [3] k (fun kq v3 w'=>∃(x3_1:Int),v3=.int .i64 x3_1∧Aside0 (whole_trimmed.l0 kq l0 x3_1=some r)∧Aside0 (kq≤k)∧Aside0 (Kd.V (Kd.int .u64) 72 w' w.heap.size (fun k_=>(P0_ k_∨w.heap.size≤k_)) (.slice A0 l0.length c0) l0)∧Aside0 (Below w.heap.size w w'))
 case atStart=>exact⟨((l0.length:Int)),(by first|rfl|(simp;done)|(simp[*];done)),H',⟨Nat.le_refl _⟩,⟨kvu HO0.out⟩,⟨khu HB.out⟩⟩
 case round=>
  clear H'
  obtain⟨x3_1,rfl,HA,HK1,HO_0,HB⟩:=hrel
  cases gk with
  | zero=>exact absurd HA.out (by simp[whole_trimmed.l0])
  | succ k1=>
   have H:=HA.out
   clear HA
   simp only[whole_trimmed.l0]at H
   by_cases c2:x3_1>0
   ·rw [if_pos c2]at H
    have c2b0:decide (0<x3_1)=true:=decide_eq_true c2
    clear c2
    obtain⟨ji3,hji3⟩:∃j_:Int,(wrap64 (x3_1-1))=j_:=⟨_,rfl⟩
    replace H:(if 0≤(ji3) then(if(ji3)<(l0.length:Int) then(if(rd l0 (ji3))=0 then(whole_trimmed.l0 k1 l0 ji3) else(if 0≤x3_1 then(if x3_1≤(l0.length:Int) then(some (l0.take (x3_1:Int).toNat)) else(none)) else(none))) else(none)) else(none))=some r:=by first|(rw[hji3]at H;exact H)|(simp only[hji3]at H ⊢;exact H)
    have hji3w:(IntKind.i64.wrap (x3_1-1))=ji3:=(i64_w _).trans hji3
    by_cases c4:0≤(ji3)
    ·rw [if_pos c4]at H
     have c4b0:decide (0≤(ji3))=true:=decide_eq_true c4
     clear c4
     by_cases c5:(ji3)<(l0.length:Int)
     ·rw[if_pos c5]at H
      have c5b0:decide ((ji3)<(l0.length:Int))=true:=decide_eq_true c5
      clear c5
      by_cases c6:(rd l0 (ji3))=0
      ·rw[if_pos c6]at H
       have c6b0:((rd l0 (ji3))==0)=true:=beq_iff_eq.mpr c6
       have c6b1:((rd l0 (ji3)) != 0)=false:=bne_eq_false_iff_eq.mpr c6
       clear c6
       have H':=Aside0.mk H
       clear H
       have p101:0≤((ji3):Int):=of_decide_eq_true ‹_›
       have q101:(ji3)<(l0.length:Int):=of_decide_eq_true ‹_›
       obtain⟨ad101,e101,hx101_0⟩:=Kd.at_int (Kd.V_reads' HO_0.out).2.2 (ji3) p101 q101
       cases e101
       replace p101:=eq_true p101
       replace q101:=eq_true q101
       go_wp2
       go_roundg k1
       case measure=>have:=HK1.out;omega
       case rel=>exact⟨(ji3),(by first|rfl|(simp;done)|(simp only[←hji3]<;>(first|rfl|simp))|(simp[*];done)),H',⟨by have:=HK1.out;omega⟩,⟨kvu HO_0.out⟩,⟨khu HB.out⟩⟩
      rw[if_neg c6]at H
      have c6b0:((rd l0 (ji3))==0)=false:=beq_eq_false_iff_ne.mpr c6
      have c6b1:((rd l0 (ji3)) != 0)=true:=bne_iff_ne.mpr c6
      by_cases c7:0≤x3_1
      ·rw[if_pos c7]at H
       have c7b0:=eq_true c7
       have c7b1:decide (0≤x3_1)=true:=decide_eq_true c7
       clear c7
       by_cases c8:x3_1≤(l0.length:Int)
       ·rw[if_pos c8]at H
        have c8b0:=eq_true c8
        have c8b1:decide (x3_1≤(l0.length:Int))=true:=decide_eq_true c8
        clear c8
        obtain⟨y102,hy102⟩:∃y_:List Int,y_=(l0.take (x3_1:Int).toNat):=⟨_,rfl⟩
        replace H:(some y102)=some r:=by first|(rw[hy102];with_reducible exact H)|(have H2_:=(Option.bind_some _ _).symm.trans H;rw[hy102];with_reducible exact H2_)|(have H2_:=(Option.bind_some _ _).symm.trans H;with_reducible exact H2_)|with_reducible exact H|(rw[hy102];exact H)|exact H
        have Ny102:=Aside0.mk hy102
        clear hy102
        obtain rfl:=Option.some.inj H
        have p101:0≤((ji3):Int):=of_decide_eq_true ‹_›
        have q101:(ji3)<(l0.length:Int):=of_decide_eq_true ‹_›
        obtain⟨ad101,e101,hx101_0⟩:=Kd.at_int (Kd.V_reads' HO_0.out).2.2 (ji3) p101 q101
        cases e101
        replace p101:=eq_true p101
        replace q101:=eq_true q101
        have q9:(x3_1:Int)≤((l0.length:Int):Int):=of_decide_eq_true ‹_›
        obtain⟨i09,hi09,_,hsz9,_⟩:=info_parts info72
        have hroom9:l0.length≤c0:=(Kd.V_reads' HO_0.out).2.1
        have hC9:Kd.F (Kd.int .u64) _ _ (some ad101) l0.length l0:=(Kd.V_at (base:=w.heap.size) HO_0.out).2.2
        have hcut9:=cut_to (P:=Tryz.prog) 23 72 .i64 Tryz.underlying23 hi09 (some ad101) l0.length c0 x3_1 (of_decide_eq_true ‹_›) q9 hroom9
        have hr9:=Kd.F_take (m:=(x3_1:Int).toNat) hC9 (by omega)
        have hy9:y102.length=(x3_1:Int).toNat:=(by rw[Ny102.out,List.length_take];omega)
        rw[←Ny102.out]at hr9
        rw[←hy9]at hcut9
        have HO106:=Aside0.mk (show Kd.V (Kd.int .u64) 72 _ w.heap.size _ (.slice (some ad101) y102.length c0) y102 from Kd.V_mk (by omega) hr9)
        have HC106:=Aside0.mk (show y102.length≤c0 from by omega)
        clear hr9 hC9 hroom9 hi09 hsz9
        have KY9:=Aside0.mk hy9
        clear hy9
        replace q9:=eq_true q9
        go_wp2
        go_ret
        exact⟨_,by first|rfl|(simp[errW_none,errW_some]<;>rfl)|(simp only[←hji3];first|rfl|(simp[errW_none,errW_some]<;>rfl))|(simp[*,errW_none,errW_some]<;>rfl),kvu HO106.out,khu HB.out⟩
       rw[if_neg c8]at H
       exact absurd H (by simp)
      rw[if_neg c7]at H
      exact absurd H (by simp)
     rw[if_neg c5]at H
     exact absurd H (by simp)
    rw[if_neg c4]at H
    exact absurd H (by simp)
   rw[if_neg c2]at H
   have c2b0:decide (0<x3_1)=false:=decide_eq_false c2
   clear c2
   by_cases c10:0≤x3_1
   ·rw[if_pos c10]at H
    have c10b0:=eq_true c10
    have c10b1:decide (0≤x3_1)=true:=decide_eq_true c10
    clear c10
    by_cases c11:x3_1≤(l0.length:Int)
    ·rw[if_pos c11]at H
     have c11b0:=eq_true c11
     have c11b1:decide (x3_1≤(l0.length:Int))=true:=decide_eq_true c11
     clear c11
     obtain⟨y107,hy107⟩:∃y_:List Int,y_=(l0.take (x3_1:Int).toNat):=⟨_,rfl⟩
     replace H:(some y107)=some r:=by first|(rw[hy107];with_reducible exact H)|(have H2_:=(Option.bind_some _ _).symm.trans H;rw[hy107];with_reducible exact H2_)|(have H2_:=(Option.bind_some _ _).symm.trans H;with_reducible exact H2_)|with_reducible exact H|(rw[hy107];exact H)|exact H
     have Ny107:=Aside0.mk hy107
     clear hy107
     obtain rfl:=Option.some.inj H
     have q12:(x3_1:Int)≤((l0.length:Int):Int):=of_decide_eq_true ‹_›
     obtain⟨i012,hi012,_,hsz12,_⟩:=info_parts info72
     have hroom12:l0.length≤c0:=(Kd.V_reads' HO_0.out).2.1
     have hC12:Kd.F (Kd.int .u64) _ _ A0 l0.length l0:=(Kd.V_at (base:=w.heap.size) HO_0.out).2.2
     have hcut12:=cut_to (P:=Tryz.prog) 23 72 .i64 Tryz.underlying23 hi012 A0 l0.length c0 x3_1 (of_decide_eq_true ‹_›) q12 hroom12
     have hr12:=Kd.F_take (m:=(x3_1:Int).toNat) hC12 (by omega)
     have hy12:y107.length=(x3_1:Int).toNat:=(by rw[Ny107.out,List.length_take];omega)
     rw[←Ny107.out]at hr12
     rw[←hy12]at hcut12
     have HO111:=Aside0.mk (show Kd.V (Kd.int .u64) 72 _ w.heap.size _ (.slice A0 y107.length c0) y107 from Kd.V_mk (by omega) hr12)
     have HC111:=Aside0.mk (show y107.length≤c0 from by omega)
     clear hr12 hC12 hroom12 hi012 hsz12
     have KY12:=Aside0.mk hy12
     clear hy12
     replace q12:=eq_true q12
     go_wp2
     go_ret
     exact⟨_,by first|rfl|(simp[*,errW_none,errW_some]<;>rfl),kvu HO111.out,khu HB.out⟩
    rw[if_neg c11]at H
    exact absurd H (by simp)
   rw[if_neg c10]at H
   exact absurd H (by simp)
def whole_amount_null.f (l0:List Int):Option (Bool):=some ((l0.length:Int)==0)
theorem whole_amount_null.calls (A0:Option Addr) (c0:Nat) (l0:List Int) (r:Bool) (w:World) (hr0:Kd.C (Kd.int .u64) w A0 l0.length l0) (hc0:l0.length≤c0) (h:whole_amount_null.f l0=some r) :
  Calls Tryz.prog 54 #[.slice A0 l0.length c0] w fun e w'=>e=.returned (.bool r)∧Drawn0 w w':=by
 have HR0:=Aside0.mk hr0
 have HC0:=Aside0.mk hc0
 clear hr0 hc0
 have H:(some ((l0.length:Int)==0))=some r:=h
 clear h
 obtain rfl:=Option.some.inj H
 go_enter Tryz.func54,Tryz.ntmps54
 go_wp2
 go_ret
 exact⟨by first|rfl|(simp;done)|(simp[*];done),by repeat (first|exact Drawn0.refl _|apply Drawn0.step)⟩
end Go.Proofs.YtikencoikigllaaGreatDoor.PRy
namespace Go.Proofs.YtikencoikigllaaGreatDoor.Mine
open Go Go.RowKit Go.Proofs.YtikencoikigllaaGreatDoorW.PrintWords Go.Proofs.YtikencoikigllaaGreatDoorW.PrintLast Go.Proofs.YtikencoikigllaaGreatDoorW.PrintMore
abbrev Bx:=Nat×Array Value×TypeId
structure Keep (w:World) (bs:List Bx) (vs:List (Value×List Int)) (W:World):Prop where
 below:Below w.heap.size w W
 blk:∀b∈bs,w.heap.size≤b.1∧W.heap[b.1]? = some (.cells b.2.1 b.2.2 (0,0))
 nod:(bs.map (·.1)).Nodup
 val:∀v∈vs,Kd.V (Kd.int .u64) 72 W 0 (fun k=>∀b∈bs,k≠b.1) v.1 v.2
namespace Keep
variable {w W W':World} {bs bs':List Bx} {vs vs':List (Value×List Int)} {g:Nat} {cs:Array Value} {t:TypeId} {v:Value} {xs:List Int}
theorem refl (w:World):Keep w [] [] w:=⟨Below.refl _ _,fun _ h=>absurd h (by simp),List.nodup_nil,fun _ h=>absurd h (by simp)⟩
theorem up (K:Keep w bs vs W) (hb:Below W.heap.size W W'):Keep w bs vs W':=
 ⟨K.below.trans (hb.mono K.below.size),fun b h=>⟨(K.blk b h).1,blk_below (K.blk b h).2 hb⟩,K.nod,fun v h=>Kd.V_below (K.val v h) hb⟩
theorem u [u:UpO W W'] (K:Keep w bs vs W):Keep w bs vs W':=K.up u.below
theorem add (K:Keep w bs vs W) {base:Nat} {ok:Nat→Prop} (hb:Below W.heap.size W W') (ho:Kd.V (Kd.int .u64) 72 W' base (fun k=>ok k∨W.heap.size≤k) v xs) (hok:∀k,ok k→k<w.heap.size∨∀b∈bs,k≠b.1):Keep w bs ((v,xs)::vs) W':=by
 have K':=K.up hb
 refine⟨K'.below,K'.blk,K'.nod,fun x hx=>?_⟩
 rcases List.mem_cons.1 hx with rfl|hx
 ·refine Kd.V_lower (Kd.V_mono ho fun k hk b hbm=>?_) (Nat.zero_le _)
  have h1:=K.blk b hbm
  have h2:=blk_lt h1.2
  rcases hk with hk|hk
  ·rcases hok k hk with h|h
   ·omega
   exact h b hbm
  omega
 exact K'.val x hx
theorem heap (K:Keep w bs vs W) (n:Nat) (hn:bs[n]? = some (g,cs,t)):W.heap[g]? = some (.cells cs t (0,0)):=(K.blk _ (List.mem_of_getElem? hn)).2
theorem V (K:Keep w bs vs W) (n:Nat) (hn:vs[n]? = some (v,xs)):Kd.V (Kd.int .u64) 72 W W.heap.size (fun k=>∀b∈bs,k≠b.1) v xs:=K.val _ (List.mem_of_getElem? hn)
theorem slice (K:Keep w bs vs W) (n:Nat) (hn:vs[n]? = some (v,xs)):∃A c,v=.slice A xs.length c:=Kd.V_slice (K.V n hn)
theorem C (K:Keep w bs vs W) (n:Nat) {A:Option Addr} {c:Nat} (hn:vs[n]? = some (.slice A xs.length c,xs)):Kd.C (Kd.int .u64) W A xs.length xs:=(Kd.V_reads' (K.V n hn)).2.2
end Keep
theorem bindA {α β:Type} {o:Option α} {f:α→Option β} {r:β} (h:o.bind f=some r):∃a,Aside0 (o=some a)∧f a=some r:=by
 obtain⟨a,h1,h2⟩:=Option.bind_eq_some_iff.mp h
 exact⟨a,⟨h1⟩,h2⟩
theorem kls:(∀l:List Bx,[]++l=l)∧(∀(x:Bx) (l m:List Bx),x::l++m=x::(l++m))∧(∀(xs:List Bx) (x a:Bx),(x::xs).set 0 a=a::xs)∧(∀(xs:List Bx) (x a:Bx) (i:Nat),(x::xs).set (i+1) a=x::xs.set i a):=
 ⟨fun _=>rfl,fun _ _ _=>rfl,fun _ _ _=>rfl,fun _ _ _ _=>rfl⟩
section
variable {P:Program} {ops:Array Oper} {Q:Exit→Act→World→Prop} {md:Region.Mode} {S:World→Prop} {ds:List Nat}
theorem kbx {o:Oper} {a:Act} {W:World} {Kc:Act→World→Prop} (cs:Array Value) (t:TypeId) (N:Tmp)
  (h:∀g,g=W.heap.size→∀w1,w1.heap[g]? = some (.cells cs t (0,0))→Below W.heap.size W w1→Kc (a.put o.dst (.pointer (some ⟨g,0,none⟩))) w1)
  (hg:Region.wanted o (yielded ops a.tmps)=true:=by rfl) (hd:o.dst=some N:=by rfl) (hr:(execOp a.eval o).run P W=.ok (.value (.pointer (some ⟨W.heap.size,0,none⟩))) (W.alloc (.cells cs t (0,0))):=by first|(go_simp;done)|(go_simp;rfl)):if Region.wanted o (yielded ops a.tmps)=true then Oper.wp P o a W Kc Q else Kc (a.put o.dst undef) W:=
 box_step hg hd hr h
theorem knq {fuel:Nat} {l:Array Bool} {a a':Act} {w:World} (h:wpAnyLast P md ops Q S ds fuel l a' w) (ha:a=a':=by first|(simp only[putAll,Act.put,kss,i64_w,i32_w];done)|(simp only[putAll,Act.put,kss,i64_w,i32_w];rfl)|rfl):wpAnyLast P md ops Q S ds fuel l a w:=norm_ ha h
end
end Go.Proofs.YtikencoikigllaaGreatDoor.Mine
namespace Go.Proofs.YtikencoikigllaaGreatDoor.Mine
open Go Go.RowKit Go.Proofs.YtikencoikigllaaGreatDoorW.PrintWords Go.Proofs.YtikencoikigllaaGreatDoorW.PrintLast Go.Proofs.YtikencoikigllaaGreatDoorW.PrintMore
structure KV where
 {α:Type}
 kd:Kd α
 e:TypeId
 v:Value
 xs:List α
 ok:Nat→Prop
def KOk (n:Nat) (bs:List Bx) (ok:Nat→Prop) (k:Nat):Prop:=(ok k∨n≤k)∧∀b∈bs,k≠b.1
structure Kp (w:World) (bs:List Bx) (vs os:List KV) (W:World):Prop where
 below:Below w.heap.size w W
 blk:∀b∈bs,w.heap.size≤b.1∧W.heap[b.1]? = some (.cells b.2.1 b.2.2 (0,0))
 nod:(bs.map (·.1)).Nodup
 val:∀v∈vs,Kd.V v.kd v.e W 0 (KOk w.heap.size bs v.ok) v.v v.xs
 own:∀v∈os,v.kd.R v.e W w.heap.size (fun k=>∀b∈bs,k≠b.1) v.v v.xs
 sep:os.Pairwise fun a b=>∀k,a.v.ownBlock=some k→b.v.ownBlock≠some k
theorem mem_insI {α:Type _} {a b:α}:∀ {l:List α} {i:Nat},a∈l.insertIdx i b→a=b∨a∈l:=fun {l i} h=>by
 by_cases hi:i≤l.length
 ·exact(List.mem_insertIdx hi).1 h
 exact .inr (by rwa [List.insertIdx_of_length_lt (by omega)]at h)
namespace Kp
variable {w W W':World} {bs bs':List Bx} {vs vs' os os':List KV} {g:Nat} {cs:Array Value} {t:TypeId}
theorem refl (w:World):Kp w [] [] [] w:=⟨Below.refl _ _,fun _ h=>absurd h (by simp),List.nodup_nil,fun _ h=>absurd h (by simp),fun _ h=>absurd h (by simp),List.Pairwise.nil⟩
theorem parV {α:Type} {kd:Kd α} {e base:Nat} {v:Value} {xs:List α} {P:Nat→Prop} (K:Kp w [] vs os w) (h:Kd.V kd e w base P v xs):Kp w [] (vs++[⟨kd,e,v,xs,P⟩]) os w:=
 ⟨K.below,K.blk,K.nod,fun x hx=>by
  rcases List.mem_append.1 hx with hx|hx
  ·exact K.val x hx
  obtain rfl:=List.mem_singleton.1 hx
  exact Kd.V_lower (Kd.V_mono h fun k hk=>⟨.inl hk,fun b hb=>absurd hb (by simp)⟩) (Nat.zero_le _),K.own,K.sep⟩
theorem up (K:Kp w bs vs os W) (hb:Below W.heap.size W W'):Kp w bs vs os W':=
 ⟨K.below.trans (hb.mono K.below.size),fun b h=>⟨(K.blk b h).1,blk_below (K.blk b h).2 hb⟩,K.nod,fun v h=>Kd.V_below (K.val v h) hb,fun v h=>Kd.R_below (K.own v h) hb,K.sep⟩
theorem u [u:UpO W W'] (K:Kp w bs vs os W):Kp w bs vs os W':=K.up u.below
theorem perm (K:Kp w bs vs os W) (hp:bs.Perm bs'):Kp w bs' vs os W:=
 ⟨K.below,fun b h=>K.blk b (hp.mem_iff.2 h),(hp.map _).nodup_iff.1 K.nod,fun v h=>Kd.V_mono (K.val v h) fun _ hk=>⟨hk.1,fun b hb=>hk.2 b (hp.mem_iff.2 hb)⟩,fun v h=>Kd.R_mono (K.own v h) fun _ hk b hb=>hk b (hp.mem_iff.2 hb),K.sep⟩
theorem box (K:Kp w bs vs os W) (hg:g=W.heap.size) (hx:W'.heap[g]? = some (.cells cs t (0,0))) (hb:Below W.heap.size W W'):Kp w (bs++[(g,cs,t)]) vs os W':=by
 have K':=K.up hb
 refine⟨K'.below,fun b h=>?_,?_,fun v h=>?_,fun v h=>?_,K.sep⟩
 ·rcases List.mem_append.1 h with h|h
  ·exact K'.blk b h
  obtain rfl:=List.mem_singleton.1 h
  exact⟨by rw[hg];exact below_size K.below,hx⟩
 ·rw[List.map_append,List.nodup_append]
  refine⟨K.nod,by simp,fun a ha b hb'=>?_⟩
  obtain rfl:b=g:=by simpa using hb'
  obtain⟨c,hc,rfl⟩:=List.mem_map.1 ha
  have:=blk_lt (K.blk c hc).2
  omega
 ·refine Kd.V_mono (Kd.V_below (Kd.V_elderB (K.val v h) g (Nat.le_of_eq hg.symm)) hb) fun k hk=>⟨hk.1.1,fun b hbm=>?_⟩
  rcases List.mem_append.1 hbm with hm|hm
  ·exact hk.1.2 b hm
  obtain rfl:=List.mem_singleton.1 hm
  exact hk.2
 refine Kd.R_mono (Kd.R_below (Kd.R_elderB (K.own v h) g (Nat.le_of_eq hg.symm)) hb) fun k hk b hbm=>?_
 rcases List.mem_append.1 hbm with hm|hm
 ·exact hk.1 b hm
 obtain rfl:=List.mem_singleton.1 hm
 exact hk.2
theorem boxI {l:List Bx} (i:Nat) (K:Kp w (bs++l) vs os W) (hi:i≤l.length) (hg:g=W.heap.size) (hx:W'.heap[g]? = some (.cells cs t (0,0))) (hb:Below W.heap.size W W'):Kp w (bs++l.insertIdx i (g,cs,t)) vs os W':=by
 refine(K.box hg hx hb).perm ?_
 rw[List.append_assoc]
 refine List.Perm.append_left _ (List.Perm.trans ?_ (List.perm_insertIdx (g,cs,t) l hi).symm)
 exact List.perm_append_comm (l₂:=[(g,cs,t)])
theorem out (K:Kp w bs vs os W) {k:Nat} (h:W.heap.size≤k) (ok:Nat→Prop):KOk w.heap.size bs ok k:=
 ⟨.inr (Nat.le_trans (below_size K.below) h),fun b hb e=>by have:=blk_lt (K.blk b hb).2;omega⟩
theorem add {α:Type} {kd:Kd α} {e base:Nat} {v:Value} {xs:List α} {ok:Nat→Prop} (okn:Nat→Prop) (K:Kp w bs vs os W) (hb:Below W.heap.size W W') (ho:Kd.V kd e W' base (fun k=>ok k∨W.heap.size≤k) v xs) (hok:∀k,ok k→KOk w.heap.size bs okn k):Kp w bs (vs++[⟨kd,e,v,xs,okn⟩]) os W':=by
 have K':=K.up hb
 refine⟨K'.below,K'.blk,K'.nod,fun x hx=>?_,K'.own,K'.sep⟩
 rcases List.mem_append.1 hx with hx|hx
 ·exact K'.val x hx
 obtain rfl:=List.mem_singleton.1 hx
 exact Kd.V_lower (Kd.V_mono ho fun k hk=>hk.elim (hok k) fun h=>K.out h okn) (Nat.zero_le _)
theorem addR2 {α β:Type} {kd:Kd α} {kd2:Kd β} {e e2:Nat} {v v2:Value} {xs:List α} {xs2:List β} (K:Kp w bs vs os W) (hb:Below W.heap.size W W') (ho:kd.R e W' W.heap.size (fun k=>some k≠v2.ownBlock) v xs) (ho2:kd2.R e2 W' W.heap.size (fun k=>some k≠v.ownBlock) v2 xs2) :
  Kp w bs (vs++[⟨kd,e,v,xs,fun _=>False⟩]++[⟨kd2,e2,v2,xs2,fun _=>False⟩]) (os++[⟨kd,e,v,xs,fun _=>True⟩]++[⟨kd2,e2,v2,xs2,fun _=>True⟩]) W':=by
 have K1:=K.add (base:=0) (ok:=fun _=>False) (fun _=>False) hb (Kd.V_mono (Kd.R_V (Kd.R_bound ho)) fun k hk=>.inr hk.2.1) (fun k h=>h.elim)
 have K2:=K.add (base:=0) (ok:=fun _=>False) (fun _=>False) hb (Kd.V_mono (Kd.R_V (Kd.R_bound ho2)) fun k hk=>.inr hk.2.1) (fun k h=>h.elim)
 have K':=K.up hb
 have hk1:∀k,W.heap.size≤k→∀b∈bs,k≠b.1:=fun k hk b hb e=>by have:=blk_lt (K.blk b hb).2;omega
 refine⟨K'.below,K'.blk,K'.nod,fun x hx=>?_,fun x hx=>?_,?_⟩
 ·rcases List.mem_append.1 hx with hx|hx
  ·exact K1.val x hx
  exact K2.val x (List.mem_append_right _ hx)
 ·rcases List.mem_append.1 hx with hx|hx
  ·rcases List.mem_append.1 hx with hx|hx
   ·exact K'.own x hx
   obtain rfl:=List.mem_singleton.1 hx
   exact Kd.R_lower (Kd.R_mono (Kd.R_bound ho) fun k hk=>hk1 k hk.2.1) (below_size K.below)
  obtain rfl:=List.mem_singleton.1 hx
  exact Kd.R_lower (Kd.R_mono (Kd.R_bound ho2) fun k hk=>hk1 k hk.2.1) (below_size K.below)
 rw[List.pairwise_append,List.pairwise_append]
 refine⟨⟨K.sep,List.pairwise_singleton _ _,fun a ha b hb' k h1 h2=>?_⟩,List.pairwise_singleton _ _,fun a ha b hb' k h1 h2=>?_⟩
 ·obtain rfl:=List.mem_singleton.1 hb'
  have g1:=Kd.R_base ho k h2
  have g2:=Kd.R_lt (K.own a ha) k h1
  omega
 obtain rfl:=List.mem_singleton.1 hb'
 rcases List.mem_append.1 ha with ha|ha
 ·have g1:=Kd.R_base ho2 k h2
  have g2:=Kd.R_lt (K.own a ha) k h1
  omega
 obtain rfl:=List.mem_singleton.1 ha
 exact ho.1 k h1 h2.symm
theorem put (K:Kp w bs vs os W) (n:Nat) (hn:bs[n]? = some (g,cs,t)) (i:Nat) (x:Value) (e:bs.set n (g,cs.setIfInBounds i x,t)=bs'):Kp w bs' vs os (W.setCell ⟨g,i,none⟩ x):=by
 subst e
 have hm:=List.mem_of_getElem? hn
 have hlt:n<bs.length:=(List.getElem?_eq_some_iff.1 hn).1
 have hmap:(bs.set n (g,cs.setIfInBounds i x,t)).map (·.1)=bs.map (·.1):=by
  rw[List.map_set]
  refine List.ext_getElem? fun j=>?_
  rw[List.getElem?_set]
  by_cases hj:n=j
  ·subst hj
   simp[hn]
   exact hlt
  rw[if_neg hj]
 have hge:=(K.blk _ hm).1
 have hmem:∀k,(∀b∈bs,k≠b.1)↔∀b∈bs.set n (g,cs.setIfInBounds i x,t),k≠b.1:=fun k=>by
  have h1:∀l:List Bx,(∀b∈l,k≠b.1)↔k∉l.map (·.1):=fun l=>⟨fun h hm=>by obtain⟨b,hb,e⟩:=List.mem_map.1 hm;exact h b hb e.symm,fun h b hb e=>h (List.mem_map.2 ⟨b,hb,e.symm⟩)⟩
  rw[h1,h1,hmap]
 refine⟨below_set K.below hge,fun b hb=>?_,by rw[hmap];exact K.nod,fun v hv=>Kd.V_mono (Kd.V_far (p:=⟨g,i,none⟩) (K.val v hv) (fun k hk=>hk.2 _ hm) x) fun k hk=>⟨hk.1,(hmem k).1 hk.2⟩,fun v hv=>Kd.R_mono (Kd.R_far (p:=⟨g,i,none⟩) (K.own v hv) (fun k hk=>hk _ hm) x) fun k hk=>(hmem k).1 hk,K.sep⟩
 obtain⟨j,hj⟩:=List.getElem?_of_mem hb
 rw[List.getElem?_set]at hj
 by_cases hnj:n=j
 ·subst hnj
  rw[if_pos rfl,if_pos hlt]at hj
  obtain rfl:=Option.some.inj hj
  exact⟨hge,blk_put (K.blk _ hm).2 i x rfl⟩
 rw[if_neg hnj]at hj
 have hb':=List.mem_of_getElem? hj
 have hne:b.1≠g:=fun e=>hnj (by
  have h1:(bs.map (·.1))[n]? = some g:=by rw[List.getElem?_map,hn];rfl
  have h2:(bs.map (·.1))[j]? = some g:=by rw[List.getElem?_map,hj,←e];rfl
  exact(List.getElem?_inj (by simpa using hlt) K.nod).1 (h1.trans h2.symm))
 exact⟨(K.blk b hb').1,blk_far (K.blk b hb').2 (p:=⟨g,i,none⟩) hne x⟩
theorem sub (K:Kp w bs vs os W) (h:∀v∈vs',v∈vs):Kp w bs vs' os W:=⟨K.below,K.blk,K.nod,fun v hv=>K.val v (h v hv),K.own,K.sep⟩
theorem heap (K:Kp w bs vs os W) (n:Nat) (hn:bs[n]? = some (g,cs,t)):W.heap[g]? = some (.cells cs t (0,0)):=(K.blk _ (List.mem_of_getElem? hn)).2
theorem cell (K:Kp w bs vs os W) (n:Nat) (hn:bs[n]? = some (g,cs,t)) (i:Nat) {x:Value} (hx:cs[i]? = some x):W.cell? ⟨g,i,none⟩=some x:=(blk_cell (K.heap n hn) i).trans hx
theorem fz (K:Kp w bs vs os W) (n:Nat) (hn:bs[n]? = some (g,cs,t)) (i:Nat):W.frozen? ⟨g,i,none⟩=false:=blk_frozen (K.heap n hn) i
section
variable {α:Type} {kd:Kd α} {e:Nat} {v:Value} {xs:List α} {ok:Nat→Prop}
theorem V (K:Kp w bs vs os W) (n:Nat) (hn:vs[n]? = some ⟨kd,e,v,xs,ok⟩):Kd.V kd e W W.heap.size (KOk w.heap.size bs ok) v xs:=K.val _ (List.mem_of_getElem? hn)
theorem slice (K:Kp w bs vs os W) (n:Nat) (hn:vs[n]? = some ⟨kd,e,v,xs,ok⟩):∃A c,v=.slice A xs.length c:=Kd.V_slice (K.V n hn)
theorem C (K:Kp w bs vs os W) (n:Nat) {A:Option Addr} {c:Nat} (hn:vs[n]? = some ⟨kd,e,.slice A xs.length c,xs,ok⟩):Kd.C kd W A xs.length xs:=(Kd.V_reads' (K.V n hn)).2.2
theorem le (K:Kp w bs vs os W) (n:Nat) {A:Option Addr} {c:Nat} (hn:vs[n]? = some ⟨kd,e,.slice A xs.length c,xs,ok⟩):xs.length≤c:=(Kd.V_reads' (K.V n hn)).2.1
theorem hand (K:Kp w bs vs os W) (n:Nat) (hn:vs[n]? = some ⟨kd,e,v,xs,ok⟩) {P:Nat→Prop} (hP:∀k,ok k∨w.heap.size≤k→P k):Kd.V kd e W w.heap.size P v xs:=Kd.V_mono (K.V n hn) fun k hk=>hP k hk.1
theorem R (K:Kp w bs vs os W) (n:Nat) (hn:os[n]? = some ⟨kd,e,v,xs,ok⟩):kd.R e W w.heap.size (fun _=>True) v xs:=Kd.R_mono (K.own _ (List.mem_of_getElem? hn)) fun _ _=>trivial
theorem Rne (K:Kp w bs vs os W) (n:Nat) (hE:kd.E=[]) (hn:os[n]? = some ⟨kd,e,v,xs,ok⟩) {P:Nat→Prop} (hP:∀k,v.ownBlock=some k→P k):kd.R e W w.heap.size P v xs:=Kd.R_reok hE (K.own _ (List.mem_of_getElem? hn)) hP
theorem apart (K:Kp w bs vs os W) (n m:Nat) {β:Type} {kd2:Kd β} {e2:Nat} {v2:Value} {ys:List β} {ok2:Nat→Prop} (hn:os[n]? = some ⟨kd,e,v,xs,ok⟩) (hm:os[m]? = some ⟨kd2,e2,v2,ys,ok2⟩) (hne:n≠m):∀k,v.ownBlock=some k→some k≠v2.ownBlock:=by
 intro k h1 h2
 obtain⟨ln,en⟩:=List.getElem?_eq_some_iff.1 hn
 obtain⟨lm,em⟩:=List.getElem?_eq_some_iff.1 hm
 have hs:=List.pairwise_iff_getElem.1 K.sep
 rcases Nat.lt_or_gt_of_ne hne with h|h
 ·have:=hs n m ln lm h k (by rw[en];exact h1)
  rw[em]at this
  exact this h2.symm
 have:=hs m n lm ln h k (by rw[em];exact h2.symm)
 rw[en]at this
 exact this h1
end
end Kp
theorem mem_appI {α:Type _} {a b:α} {l m:List α} {i:Nat} (h:a∈m++l.insertIdx i b):a=b∨a∈m++l:=by
 rcases List.mem_append.1 h with h|h
 ·exact .inr (List.mem_append_left _ h)
 exact(mem_insI h).imp_right (List.mem_append_right _)
theorem perm_appI {α:Type _} {b:α} {l m:List α} {i:Nat} (hi:i≤l.length):(m++l.insertIdx i b).Perm (b::(m++l)):=
 ((List.perm_insertIdx b l hi).append_left m).trans List.perm_middle
namespace Kp
variable {w W W':World} {bs:List Bx} {vs vs' os l l':List KV}
theorem addI {α:Type} {kd:Kd α} {e base:Nat} {v:Value} {xs:List α} {ok:Nat→Prop} (i:Nat) (okn:Nat→Prop) (K:Kp w bs (vs++l) os W) (hb:Below W.heap.size W W') (ho:Kd.V kd e W' base (fun k=>ok k∨W.heap.size≤k) v xs) (hok:∀k,ok k→KOk w.heap.size bs okn k):Kp w bs (vs++l.insertIdx i ⟨kd,e,v,xs,okn⟩) os W':=by
 have K':=K.up hb
 refine⟨K'.below,K'.blk,K'.nod,fun x hx=>?_,K'.own,K'.sep⟩
 rcases mem_appI hx with rfl|hx
 ·exact Kd.V_lower (Kd.V_mono ho fun k hk=>hk.elim (hok k) fun h=>K.out h okn) (Nat.zero_le _)
 exact K'.val x hx
theorem addFI {α:Type} {kd:Kd α} {e base:Nat} {v:Value} {xs:List α} (i:Nat) (okn:Nat→Prop) (K:Kp w bs (vs++l) os W) (hb:Below W.heap.size W W') (ho:Kd.V kd e W' base (fun k=>W.heap.size≤k) v xs):Kp w bs (vs++l.insertIdx i ⟨kd,e,v,xs,okn⟩) os W':=
 K.addI (ok:=fun _=>False) i okn hb (Kd.V_mono ho fun _ h=>.inr h) fun _ h=>h.elim
theorem moreI {α:Type} {kd:Kd α} {e base:Nat} {v:Value} {xs:List α} {ok:Nat→Prop} (i:Nat) (okn:Nat→Prop) (K:Kp w bs vs' os W) (K2:Kp w bs (vs++l) os W') (ho:Kd.V kd e W' base (fun k=>ok k∨W.heap.size≤k) v xs) (hok:∀k,ok k→KOk w.heap.size bs okn k):Kp w bs (vs++l.insertIdx i ⟨kd,e,v,xs,okn⟩) os W':=by
 refine⟨K2.below,K2.blk,K2.nod,fun x hx=>?_,K2.own,K2.sep⟩
 rcases mem_appI hx with rfl|hx
 ·exact Kd.V_lower (Kd.V_mono ho fun k hk=>hk.elim (hok k) fun h=>K.out h okn) (Nat.zero_le _)
 exact K2.val x hx
theorem ownI {α:Type} {kd:Kd α} {e:Nat} {v:Value} {xs:List α} {ok:Nat→Prop} (i:Nat) (K:Kp w bs vs (os++l) W) (hb:Below W.heap.size W W') (ho:kd.R e W' W.heap.size ok v xs) (hi:i≤l.length):Kp w bs vs (os++l.insertIdx i ⟨kd,e,v,xs,fun _=>True⟩) W':=by
 have K':=K.up hb
 have hk1:∀k,W.heap.size≤k→∀b∈bs,k≠b.1:=fun k hk b hb e=>by have:=blk_lt (K.blk b hb).2;omega
 refine⟨K'.below,K'.blk,K'.nod,K'.val,fun x hx=>?_,?_⟩
 ·rcases mem_appI hx with rfl|hx
  ·exact Kd.R_lower (Kd.R_mono (Kd.R_bound ho) fun k hk=>hk1 k hk.2.1) (below_size K.below)
  exact K'.own x hx
 refine((perm_appI hi).symm.pairwise_iff (fun {_ _} h k h1 h2=>h k h2 h1)).1 (List.pairwise_cons.2 ⟨fun b hbm k h1 h2=>?_,K.sep⟩)
 have g1:=Kd.R_base ho k h1
 have g2:=Kd.R_lt (K.own b hbm) k h2
 omega
theorem addRI {α:Type} {kd:Kd α} {e:Nat} {v:Value} {xs:List α} {ok:Nat→Prop} (j i:Nat) (K:Kp w bs (vs++l) (os++l') W) (hb:Below W.heap.size W W') (ho:kd.R e W' W.heap.size ok v xs) (hi:i≤l'.length):Kp w bs (vs++l.insertIdx j ⟨kd,e,v,xs,fun _=>False⟩) (os++l'.insertIdx i ⟨kd,e,v,xs,fun _=>True⟩) W':=by
 have K1:=K.addFI (base:=0) j (fun _=>False) hb (Kd.V_mono (Kd.R_V (Kd.R_bound ho)) fun k hk=>hk.2.1)
 have K2:=K.ownI i hb ho hi
 exact⟨K2.below,K2.blk,K2.nod,K1.val,K2.own,K2.sep⟩
theorem addRE {α:Type} {kd:Kd α} {e:Nat} {v:Value} {xs:List α} {ok:Nat→Prop} (K:Kp w bs vs os W) (hb:Below W.heap.size W W') (ho:kd.R e W' W.heap.size ok v xs):Kp w bs (vs++[⟨kd,e,v,xs,fun _=>False⟩]) (os++[⟨kd,e,v,xs,fun _=>True⟩]) W':=by
 have K0:Kp w bs (vs++[]) (os++[]) W:=by simpa using K
 exact K0.addRI 0 0 hb ho (Nat.le_refl _)
end Kp
theorem KOk.t {n k:Nat} {bs:List Bx} {ok:Nat→Prop} (h:KOk n bs ok k):KOk n bs (fun _=>True) k:=⟨.inl trivial,h.2⟩
theorem KOk.l {n k:Nat} {bs:List Bx} {ok ok2:Nat→Prop} (h:KOk n bs ok k):KOk n bs (fun k=>ok k∨ok2 k) k:=⟨h.1.elim (fun h=>.inl (.inl h)) .inr,h.2⟩
theorem KOk.r {n k:Nat} {bs:List Bx} {ok ok2:Nat→Prop} (h:KOk n bs ok2 k):KOk n bs (fun k=>ok k∨ok2 k) k:=⟨h.1.elim (fun h=>.inl (.inr h)) .inr,h.2⟩
namespace Kp
variable {w W W':World} {bs bs':List Bx} {vs vs' os os':List KV} {g:Nat} {cs:Array Value} {t:TypeId}
theorem addF {α:Type} {kd:Kd α} {e base:Nat} {v:Value} {xs:List α} (okn:Nat→Prop) (K:Kp w bs vs os W) (hb:Below W.heap.size W W') (ho:Kd.V kd e W' base (fun k=>W.heap.size≤k) v xs):Kp w bs (vs++[⟨kd,e,v,xs,okn⟩]) os W':=
 K.add (ok:=fun _=>False) okn hb (Kd.V_mono ho fun _ h=>.inr h) fun _ h=>h.elim
theorem more {α:Type} {kd:Kd α} {e base:Nat} {v:Value} {xs:List α} {ok:Nat→Prop} (okn:Nat→Prop) (K:Kp w bs vs os W) (K2:Kp w bs vs' os W') (ho:Kd.V kd e W' base (fun k=>ok k∨W.heap.size≤k) v xs) (hok:∀k,ok k→KOk w.heap.size bs okn k):Kp w bs (vs'++[⟨kd,e,v,xs,okn⟩]) os W':=by
 refine⟨K2.below,K2.blk,K2.nod,fun x hx=>?_,K2.own,K2.sep⟩
 rcases List.mem_append.1 hx with hx|hx
 ·exact K2.val x hx
 obtain rfl:=List.mem_singleton.1 hx
 exact Kd.V_lower (Kd.V_mono ho fun k hk=>hk.elim (hok k) fun h=>K.out h okn) (Nat.zero_le _)
theorem moreF {α:Type} {kd:Kd α} {e base:Nat} {v:Value} {xs:List α} (okn:Nat→Prop) (K:Kp w bs vs os W) (K2:Kp w bs vs' os W') (ho:Kd.V kd e W' base (fun k=>W.heap.size≤k) v xs):Kp w bs (vs'++[⟨kd,e,v,xs,okn⟩]) os W':=
 K.more (ok:=fun _=>False) okn K2 (Kd.V_mono ho fun _ h=>.inr h) fun _ h=>h.elim
theorem cell2 (K:Kp w bs vs os W) (n:Nat) {x y:Value} (hn:bs[n]? = some (g,#[x,y],t)):W.cell? ⟨g,0,none⟩=some x∧W.cell? ⟨g,1,none⟩=some y:=⟨K.cell n hn 0 rfl,K.cell n hn 1 rfl⟩
theorem abs (K:Kp w bs vs os W):∃B V O,Aside0 (B=bs)∧Aside0 (V=vs)∧Aside0 (O=os)∧Kp w (B++[]) (V++[]) (O++[]) W:=⟨bs,vs,os,⟨rfl⟩,⟨rfl⟩,⟨rfl⟩,by simpa using K⟩
theorem put2 (K:Kp w bs vs os W) (n:Nat) {x y:Value} (x' y':Value) (hn:bs[n]? = some (g,#[x,y],t)):Kp w (bs.set n (g,#[x',y'],t)) vs os ((W.setCell ⟨g,0,none⟩ x').setCell ⟨g,1,none⟩ y'):=by
 have hlt:n<bs.length:=(List.getElem?_eq_some_iff.1 hn).1
 have K1:=K.put n hn 0 x' rfl
 have K2:=K1.put n (g:=g) (cs:=#[x',y]) (t:=t) (by rw[List.getElem?_set_self hlt];rfl) 1 y' rfl
 rw[List.set_set]at K2
 exact K2
end Kp
namespace Kp
variable {w W W':World} {bs:List Bx} {vs vs' os os' l l':List KV}
theorem permO (K:Kp w bs vs os W) (hp:os.Perm os'):Kp w bs vs os' W:=
 ⟨K.below,K.blk,K.nod,K.val,fun v h=>K.own v (hp.mem_iff.2 h),(hp.pairwise_iff (fun {_ _} h k h1 h2=>h k h2 h1)).1 K.sep⟩
theorem addR2I {α β:Type} {kd:Kd α} {kd2:Kd β} {e e2:Nat} {v v2:Value} {xs:List α} {xs2:List β} (j i:Nat) (K:Kp w bs (vs++l) (os++l') W) (hb:Below W.heap.size W W') (ho:kd.R e W' W.heap.size (fun k=>some k≠v2.ownBlock) v xs) (ho2:kd2.R e2 W' W.heap.size (fun k=>some k≠v.ownBlock) v2 xs2) (hi:i≤l'.length) :
  Kp w bs (vs++(l.insertIdx j ⟨kd,e,v,xs,fun _=>False⟩).insertIdx (j+1) ⟨kd2,e2,v2,xs2,fun _=>False⟩) (os++(l'.insertIdx i ⟨kd,e,v,xs,fun _=>True⟩).insertIdx (i+1) ⟨kd2,e2,v2,xs2,fun _=>True⟩) W':=by
 have K1:=K.addR2 hb ho ho2
 refine(K1.sub (fun x hx=>?_)).permO ?_
 ·simp only[List.mem_append,List.mem_singleton]
  rcases mem_appI hx with h|h
  ·exact .inr h
  rcases mem_appI h with h|h
  ·exact .inl (.inr h)
  exact .inl (.inl (List.mem_append.1 h))
 have h1:i+1≤(l'.insertIdx i ⟨kd,e,v,xs,fun _=>True⟩).length:=by rw[List.length_insertIdx_of_le_length hi];omega
 have h2:=((perm_appI (m:=os) (b:=(⟨kd2,e2,v2,xs2,fun _=>True⟩:KV)) h1).trans ((perm_appI (m:=os) hi).cons _)).symm
 refine List.Perm.trans ?_ h2
 refine List.Perm.trans List.perm_append_comm ?_
 exact(List.perm_append_comm (l₂:=[(⟨kd,e,v,xs,fun _=>True⟩:KV)])).cons _
end Kp
section
variable {P:Program} {ops:Array Oper} {Q:Exit→Act→World→Prop} {rest:List Oper} {o:Oper} {a:Act} {w W:World} {bs vs os} {g t:Nat} {a0 b0:Value} {md:Region.Mode} {S:World→Prop} {ds:List Nat}
theorem kst2 (n:Nat) (x y:Value) (K:Kp w bs vs os W) (hn:bs[n]? = some (g,#[a0,b0],t))
  (hrun:W.cell? ⟨g,0,none⟩=some a0→W.cell? ⟨g,1,none⟩=some b0→W.frozen? ⟨g,0,none⟩=false→W.frozen? ⟨g,1,none⟩=false→(execOp a.eval o).run P W=.ok .skip ((W.setCell ⟨g,0,none⟩ x).setCell ⟨g,1,none⟩ y))
  (h:∀W1,Kp w (bs.set n (g,#[x,y],t)) vs os W1→wpList P ops Q rest a W1) (hd:o.dst=none:=by rfl) (hgd:o.guard=none:=by rfl):wpList P ops Q (o::rest) a W:=
 wpList_plain hgd fun K' hK=>by
  have c:=K.cell2 n hn
  unfold Oper.wp
  rw[hrun c.1 c.2 (K.fz n hn 0) (K.fz n hn 1)]
  show K' (a.put o.dst undef) _
  rw[hd]
  exact hK _ _ (h _ (K.put2 n x y hn))
theorem klast2 {i:Nat} {oi:Oper} {fuel:Nat} {l:Array Bool} (l':Array Bool) (n:Nat) (x y:Value) (K:Kp w bs vs os W) (hn:bs[n]? = some (g,#[a0,b0],t)) (hi:ops[i]? = some oi) (hN:oi.dst=none) (hc:readyB md ops l l' i=true) (hd:i∈ds) (hw:Region.wanted oi (yielded ops a.tmps)=true)
  (hrun:W.cell? ⟨g,0,none⟩=some a0→W.cell? ⟨g,1,none⟩=some b0→W.frozen? ⟨g,0,none⟩=false→W.frozen? ⟨g,1,none⟩=false→(execOp a.eval oi).run P W=.ok .skip ((W.setCell ⟨g,0,none⟩ x).setCell ⟨g,1,none⟩ y))
  (h:∀W1,Kp w (bs.set n (g,#[x,y],t)) vs os W1→wpAnyLast P md ops Q S ds fuel l' a W1):wpAnyLast P md ops Q S ds (fuel+1) l a W:=by
 have c:=K.cell2 n hn
 refine last_ l' hi hN hc hd fun K' hK=>skip_ hw hN (hrun c.1 c.2 (K.fz n hn 0) (K.fz n hn 1)) ?_
 exact hK.out _ _ (h _ (K.put2 n x y hn))
theorem kone2 {i:Nat} {oi:Oper} {fuel:Nat} {l:Array Bool} (l':Array Bool) (n:Nat) (x y:Value) (K:Kp w bs vs os W) (hn:bs[n]? = some (g,#[a0,b0],t)) (hi:ops[i]? = some oi) (hN:oi.dst=none) (hc:readyB md ops l l' i=true) (hd:i∉ds) (hw:Region.wanted oi (yielded ops a.tmps)=true)
  (hrun:W.cell? ⟨g,0,none⟩=some a0→W.cell? ⟨g,1,none⟩=some b0→W.frozen? ⟨g,0,none⟩=false→W.frozen? ⟨g,1,none⟩=false→(execOp a.eval oi).run P W=.ok .skip ((W.setCell ⟨g,0,none⟩ x).setCell ⟨g,1,none⟩ y))
  (hS:∀W1,Kp w (bs.set n (g,#[x,y],t)) vs os W1→S W1) (h:∀W1,Kp w (bs.set n (g,#[x,y],t)) vs os W1→wpAnyLast P md ops Q S ds fuel l' a W1):wpAnyLast P md ops Q S ds (fuel+1) l a W:=by
 have c:=K.cell2 n hn
 refine one_ l' hi hN hc hd fun K' hK=>skip_ hw hN (hrun c.1 c.2 (K.fz n hn 0) (K.fz n hn 1)) ?_
 exact hK.out _ _ (hS _ (K.put2 n x y hn)) fun _=>h _ (K.put2 n x y hn)
end
section
variable {P:Program} {ops:Array Oper} {Q:Exit→Act→World→Prop} {rest:List Oper} {o:Oper} {a:Act} {w W:World} {bs:List Bx} {vs os:List KV} {g t:Nat} {a0 b0:Value} {md:Region.Mode} {S:World→Prop} {ds:List Nat}
theorem ks2 (n:Nat) (x y:Value) (K:Kp w bs vs os W) (hn:bs[n]? = some (g,#[a0,b0],t)) (h:∀W1,Kp w (bs.set n (g,#[x,y],t)) vs os W1→wpList P ops Q rest a W1) (hd:o.dst=none:=by rfl) (hgd:o.guard=none:=by rfl)
 (hrun:W.cell? ⟨g,0,none⟩=some a0→W.cell? ⟨g,1,none⟩=some b0→W.frozen? ⟨g,0,none⟩=false→W.frozen? ⟨g,1,none⟩=false→(execOp a.eval o).run P W=.ok .skip ((W.setCell ⟨g,0,none⟩ x).setCell ⟨g,1,none⟩ y):=by intro c0 c1 f0 f1;first|(go_simp;done)|(go_simp;rfl)):wpList P ops Q (o::rest) a W:=kst2 n x y K hn hrun h hd hgd
theorem ko2 {i:Nat} {oi:Oper} {fuel:Nat} {l:Array Bool} (l':Array Bool) (n:Nat) (x y:Value) (K:Kp w bs vs os W) (hn:bs[n]? = some (g,#[a0,b0],t)) (hi:ops[i]? = some oi) (hN:oi.dst=none) (hc:readyB md ops l l' i=true) (hd:i∉ds) (hw:Region.wanted oi (yielded ops a.tmps)=true)
 (hS:∀W1,Kp w (bs.set n (g,#[x,y],t)) vs os W1→S W1) (h:∀W1,Kp w (bs.set n (g,#[x,y],t)) vs os W1→wpAnyLast P md ops Q S ds fuel l' a W1) (hrun:W.cell? ⟨g,0,none⟩=some a0→W.cell? ⟨g,1,none⟩=some b0→W.frozen? ⟨g,0,none⟩=false→W.frozen? ⟨g,1,none⟩=false→(execOp a.eval oi).run P W=.ok .skip ((W.setCell ⟨g,0,none⟩ x).setCell ⟨g,1,none⟩ y):=by intro c0 c1 f0 f1;first|(go_simp;done)|(go_simp;rfl)):wpAnyLast P md ops Q S ds (fuel+1) l a W:=kone2 l' n x y K hn hi hN hc hd hw hrun hS h
theorem kbk {rest:List Oper} {o:Oper} (N:Tmp) (cs:Array Value) (t:TypeId) (K:Kp w bs vs os W) (h:∀g W1,Kp w (bs++[(g,cs,t)]) vs os W1→wpList P ops Q rest (a.put o.dst (.pointer (some ⟨g,0,none⟩))) W1)
 (hd:o.dst=some N:=by rfl) (hgd:o.guard=none:=by rfl) (hrun:(execOp a.eval o).run P W=.ok (.value (.pointer (some ⟨W.heap.size,0,none⟩))) (W.alloc (.cells cs t (0,0))):=by first|(go_simp;done)|(go_simp;rfl)):wpList P ops Q (o::rest) a W:=
 kbe N cs t (fun g hg w1 hx hb=>h g w1 (K.box hg hx hb)) hd hgd hrun
end
theorem kpstart {P:Program} {ops:Array Oper} {Q:Exit→Act→World→Prop} {S:World→Prop} {ds:List Nat} {id n:Nat} {a:Act} {w W W0:World} {bs:List Bx} {vs os:List KV} [u:UpO W0 W] (l:Array Bool) (hm:P.follows .mixedOrders=true) (hn:ops.size=n) (hl:Array.replicate n false=l)
  (K:Kp w bs vs os W0) (hS:∀W',Kp w bs vs os W'→S W') (h:∀W',Kp w bs vs os W'→S W'→wpAnyLast P .any ops Q S ds n l a W'):(Code.region id ops true).wp P Q a W:=
 start_ l hm hn hl (hS _ (K.up (below_drew u.below))) fun h'=>h _ (K.up (below_drew u.below)) h'
theorem klv:(∀l:List KV,[]++l=l)∧(∀(x:KV) (l m:List KV),x::l++m=x::(l++m)):=
 ⟨fun _=>rfl,fun _ _ _=>rfl⟩
end Go.Proofs.YtikencoikigllaaGreatDoor.Mine
namespace Go.Proofs.YtikencoikigllaaGreatDoor.PRy
open Go.RowKit Go.Proofs.YtikencoikigllaaGreatDoorW.PrintWords Go.Proofs.YtikencoikigllaaGreatDoorW.PrintLast Go.Proofs.YtikencoikigllaaGreatDoorW.PrintMore
open Go.Proofs.YtikencoikigllaaGreatDoor.Mine
attribute [local go_sem] max2_int min2_int max_two min_two max_three min_three max_four min_four
def whole_of.f (k:Nat) (a0_0:Bool) (l0_1:List Int):Option (List Int×Bool):=(whole_trimmed.f k l0_1).bind fun t114=>(if a0_0=true then((whole_amount_null.f t114).bind fun t117=>(some (t114,!t117))) else(some (t114,false)))
theorem whole_of.calls (k:Nat) (a0_0:Bool) (P0_1_:Nat→Prop) (A0_1:Option Addr) (c0_1:Nat) (l0_1:List Int) (r1:List Int) (r2:Bool) (w:World) (hs0_1:Kd.V (Kd.int .u64) 72 w w.heap.size (fun k_=>P0_1_ k_) (.slice A0_1 l0_1.length c0_1) l0_1) (h:whole_of.f k a0_0 l0_1=some (r1,r2)) :
  Calls Tryz.prog 52 #[.agg #[.bool a0_0,.slice A0_1 l0_1.length c0_1]] w fun e w'=>∃v0_:Value,e=.returned (.agg #[v0_,.bool r2])∧Kd.V (Kd.int .u64) 72 w' w.heap.size (fun k_=>(P0_1_ k_∨w.heap.size≤k_)) v0_ r1∧Below w.heap.size w w':=by
 have hu26:=Tryz.underlying26
 have hu80:=Tryz.underlying80
 have K:=Kp.refl w
 replace K:=K.parV (Kd.V_mono (ok':=fun k=>P0_1_ k) hs0_1 (fun _ h=>h))
 clear hs0_1
 try simp only[klv]at K
 rw[whole_of.f]at h
 replace h:=bindA h
 obtain⟨x5,A6,h⟩:=h
 by_cases c_0:a0_0=true
 ·subst c_0
  rw[if_pos rfl]at h
  replace h:=bindA h
  obtain⟨z13,A14,h⟩:=h
  simp only[Option.some.injEq,Prod.mk.injEq]at h
  obtain⟨rfl,rfl⟩:=h
  go_enter Tryz.func52,Tryz.ntmps52
  go_wp2_with (first|(refine gd 1 rfl ?_;refine kbk 1 #[.bool true,.slice A0_1 l0_1.length c0_1] 26 K.u ?_;clear K;intro g1 W2 K)|(refine gd 2 rfl ?_;refine kbk 2 #[.slice none 0 0,.bool false] 80 K.u ?_;clear K;intro g3 W4 K;obtain⟨ua0,ub0⟩:=K.cell2 0 rfl)|(refine gd 6 rfl ?_;clear ua0 ub0;refine kgl (some 6) rfl rfl Tryz.func46 #[.slice A0_1 l0_1.length c0_1] rfl ?_;refine(whole_trimmed.calls _ _ _ _ l0_1 x5 _ (K.V 0 rfl) A6.out).mono ?_;rintro e W9 ⟨v7,rfl,ho8,hb⟩;refine⟨_,rfl,?_⟩;replace K:=K.u.add (fun k=>P0_1_ k) hb ho8 (fun _ h=>h);clear hb ho8;obtain⟨P10,c11,e12⟩:=K.slice 1 rfl;subst e12;obtain⟨ua0,ub0⟩:=K.cell2 0 rfl)|(refine gd 12 rfl ?_;clear ua0 ub0;refine gate_guard (by rfl) ?_;refine kgl (some 12) rfl rfl Tryz.func54 #[.slice P10 x5.length c11] rfl ?_;refine(whole_amount_null.calls _ _ x5 z13 _ (K.C 1 rfl) (K.le 1 rfl) A14.out).mono ?_;rintro e W15 ⟨rfl,hb⟩;refine⟨_,rfl,?_⟩;replace K:=K.u.up hb.below;clear hb)|(refine gs 80 2 15 rfl ?_;refine ks2 1 (.slice P10 x5.length c11) (.bool !z13) K.u rfl ?_;clear K;intro W16 K;simp only[kls,klv]at K))
  refine bodyPost_ret (results_single rfl (.cell g3 80 #[.slice P10 x5.length c11,.bool !z13] (0,0) _ rfl (K.u.heap 1 rfl) Tryz.underlying80 rfl (by kernel_rfl) .nil)) rfl ?_
  exact⟨_,rfl,K.u.hand 1 rfl (fun k_ h=>h.elim (fun h=>.inl h) .inr),K.u.below⟩
 replace c_0:=Bool.eq_false_iff.mpr c_0
 subst c_0
 rw[if_neg (by decide)]at h
 simp only[Option.some.injEq,Prod.mk.injEq]at h
 obtain⟨rfl,rfl⟩:=h
 go_enter Tryz.func52,Tryz.ntmps52
 go_wp2_with (first|(refine gd 1 rfl ?_;refine kbk 1 #[.bool false,.slice A0_1 l0_1.length c0_1] 26 K.u ?_;clear K;intro g1 W2 K)|(refine gd 2 rfl ?_;refine kbk 2 #[.slice none 0 0,.bool false] 80 K.u ?_;clear K;intro g3 W4 K;obtain⟨ua0,ub0⟩:=K.cell2 0 rfl)|(refine gd 6 rfl ?_;clear ua0 ub0;refine kgl (some 6) rfl rfl Tryz.func46 #[.slice A0_1 l0_1.length c0_1] rfl ?_;refine(whole_trimmed.calls _ _ _ _ l0_1 x5 _ (K.V 0 rfl) A6.out).mono ?_;rintro e W9 ⟨v7,rfl,ho8,hb⟩;refine⟨_,rfl,?_⟩;replace K:=K.u.add (fun k=>P0_1_ k) hb ho8 (fun _ h=>h);clear hb ho8;obtain⟨P10,c11,e12⟩:=K.slice 1 rfl;subst e12;obtain⟨ua0,ub0⟩:=K.cell2 0 rfl)|(refine gs 80 2 15 rfl ?_;clear ua0 ub0;refine ks2 1 (.slice P10 x5.length c11) (.bool false) K.u rfl ?_;clear K;intro W13 K;simp only[kls,klv]at K))
 refine bodyPost_ret (results_single rfl (.cell g3 80 #[.slice P10 x5.length c11,.bool false] (0,0) _ rfl (K.u.heap 1 rfl) Tryz.underlying80 rfl (by kernel_rfl) .nil)) rfl ?_
 exact⟨_,rfl,K.u.hand 1 rfl (fun k_ h=>h.elim (fun h=>.inl h) .inr),K.u.below⟩
def whole_amount_cmp.l0:Nat→List Int→List Int→Int→Option (Int)
 | 0,_,_,_=>none
 | k+1,x0,x1,x5=>if x5≥0 then(if 0≤x5 then(if x5<(x0.length:Int) then(if x5<(x1.length:Int) then(if(rd x0 x5)=(rd x1 x5) then(whole_amount_cmp.l0 k x0 x1 (wrap64 (x5-1))) else(if(rd x0 x5)<(rd x1 x5) then(some (-1)) else(some 1))) else(none)) else(none)) else(none)) else(some 0)
def whole_amount_cmp.f (k:Nat) (l0:List Int) (l1:List Int):Option (Int):=if(l0.length:Int)=(l1.length:Int) then(whole_amount_cmp.l0 k l0 l1 (wrap64 ((l0.length:Int)-1))) else(if(l0.length:Int)<(l1.length:Int) then(some (-1)) else(some 1))
theorem whole_amount_cmp.calls (k:Nat) (A0:Option Addr) (c0:Nat) (l0:List Int) (A1:Option Addr) (c1:Nat) (l1:List Int) (r:Int) (w:World) (hr0:Kd.C (Kd.int .u64) w A0 l0.length l0) (hc0:l0.length≤c0) (hr1:Kd.C (Kd.int .u64) w A1 l1.length l1) (hc1:l1.length≤c1) (h:whole_amount_cmp.f k l0 l1=some r) :
  Calls Tryz.prog 127 #[.slice A0 l0.length c0,.slice A1 l1.length c1] w fun e w'=>e=.returned (.int .i64 r)∧Drawn0 w w':=by
 have HR0:=Aside0.mk hr0
 have HC0:=Aside0.mk hc0
 clear hr0 hc0
 have HR1:=Aside0.mk hr1
 have HC1:=Aside0.mk hc1
 clear hr1 hc1
 have H:(if(l0.length:Int)=(l1.length:Int) then(whole_amount_cmp.l0 k l0 l1 (wrap64 ((l0.length:Int)-1))) else(if(l0.length:Int)<(l1.length:Int) then(some (-1)) else(some 1)))=some r:=h
 clear h
 by_cases c3:(l0.length:Int)=(l1.length:Int)
 ·rw [if_pos c3]at H
  have c3b0:((l0.length:Int)==(l1.length:Int))=true:=beq_iff_eq.mpr c3
  have c3b1:((l0.length:Int) != (l1.length:Int))=false:=bne_eq_false_iff_eq.mpr c3
  have c3b2:(l0.length==l1.length)=true:=by first|simpa using c3|(simp at c3 ⊢;omega)
  clear c3
  have H':=Aside0.mk H
  clear H
  go_enter Tryz.func127,Tryz.ntmps127
  go_wp2
  repeat (go_quiet (fail);try go_wp2)
  go_loopg [5] k (fun kq v5 w'=>∃(x5_1:Int),v5=.int .i64 x5_1∧Aside0 (whole_amount_cmp.l0 kq l0 l1 x5_1=some r)∧Aside0 (kq≤k)∧Drawn0 w w')
  case atStart=>exact⟨(wrap64 ((l0.length:Int)-1)),(by first|rfl|(simp;done)|(simp[*];done)),H',⟨Nat.le_refl _⟩,by repeat (first|exact Drawn0.refl _|apply Drawn0.step)⟩
  case round=>
   clear H'
   try clear c1
   try clear p2
   try clear c3
   try clear c3b0
   try clear c3b1
   try clear c3b2
   obtain⟨x5_1,rfl,HA,HK1,⟨m1,rfl⟩⟩:=hrel
   cases gk with
   | zero=>exact absurd HA.out (by simp[whole_amount_cmp.l0])
   | succ k1=>
    have H:=HA.out
    clear HA
    simp only[whole_amount_cmp.l0]at H
    by_cases c4:x5_1≥0
    ·rw [if_pos c4]at H
     have c4b0:decide (0≤x5_1)=true:=decide_eq_true c4
     clear c4
     by_cases c5:0≤x5_1
     ·rw [if_pos c5]at H
      have c5b0:decide (0≤x5_1)=true:=decide_eq_true c5
      clear c5
      by_cases c6:x5_1<(l0.length:Int)
      ·rw[if_pos c6]at H
       have c6b0:decide (x5_1<(l0.length:Int))=true:=decide_eq_true c6
       clear c6
       by_cases c7:x5_1<(l1.length:Int)
       ·rw[if_pos c7]at H
        have c7b0:decide (x5_1<(l1.length:Int))=true:=decide_eq_true c7
        clear c7
        by_cases c8:(rd l0 x5_1)=(rd l1 x5_1)
        ·rw[if_pos c8]at H
         have c8b0:((rd l0 x5_1)==(rd l1 x5_1))=true:=beq_iff_eq.mpr c8
         have c8b1:((rd l0 x5_1) != (rd l1 x5_1))=false:=bne_eq_false_iff_eq.mpr c8
         clear c8
         have H':=Aside0.mk H
         clear H
         have p118:0≤(x5_1:Int):=of_decide_eq_true ‹_›
         have q118:x5_1<(l0.length:Int):=of_decide_eq_true ‹_›
         obtain⟨ad118,e118,hx118_0⟩:=Kd.at_int HR0.out x5_1 p118 q118
         cases e118
         replace p118:=eq_true p118
         replace q118:=eq_true q118
         have p119:0≤(x5_1:Int):=of_decide_eq_true ‹_›
         have q119:x5_1<(l1.length:Int):=of_decide_eq_true ‹_›
         obtain⟨ad119,e119,hx119_0⟩:=Kd.at_int HR1.out x5_1 p119 q119
         cases e119
         replace p119:=eq_true p119
         replace q119:=eq_true q119
         go_wp2
         repeat (go_quiet (fail);try go_wp2)
         go_roundg k1
         case measure=>have:=HK1.out;omega
         case rel=>exact⟨(wrap64 (x5_1-1)),(by first|rfl|(simp;done)|(simp[*];done)),H',⟨by have:=HK1.out;omega⟩,by repeat (first|exact Drawn0.refl _|apply Drawn0.step)⟩
        rw[if_neg c8]at H
        have c8b0:((rd l0 x5_1)==(rd l1 x5_1))=false:=beq_eq_false_iff_ne.mpr c8
        have c8b1:((rd l0 x5_1) != (rd l1 x5_1))=true:=bne_iff_ne.mpr c8
        by_cases c9:(rd l0 x5_1)<(rd l1 x5_1)
        ·rw[if_pos c9]at H
         have c9b0:decide ((rd l0 x5_1)<(rd l1 x5_1))=true:=decide_eq_true c9
         clear c9
         obtain rfl:=Option.some.inj H
         have p118:0≤(x5_1:Int):=of_decide_eq_true ‹_›
         have q118:x5_1<(l0.length:Int):=of_decide_eq_true ‹_›
         obtain⟨ad118,e118,hx118_0⟩:=Kd.at_int HR0.out x5_1 p118 q118
         cases e118
         replace p118:=eq_true p118
         replace q118:=eq_true q118
         have p119:0≤(x5_1:Int):=of_decide_eq_true ‹_›
         have q119:x5_1<(l1.length:Int):=of_decide_eq_true ‹_›
         obtain⟨ad119,e119,hx119_0⟩:=Kd.at_int HR1.out x5_1 p119 q119
         cases e119
         replace p119:=eq_true p119
         replace q119:=eq_true q119
         have p120:0≤(x5_1:Int):=of_decide_eq_true ‹_›
         have q120:x5_1<(l0.length:Int):=of_decide_eq_true ‹_›
         obtain⟨ad120,e120,hx120_0⟩:=Kd.at_int HR0.out x5_1 p120 q120
         obtain rfl:ad118=ad120:=(by injection e120)
         replace p120:=eq_true p120
         replace q120:=eq_true q120
         have p121:0≤(x5_1:Int):=of_decide_eq_true ‹_›
         have q121:x5_1<(l1.length:Int):=of_decide_eq_true ‹_›
         obtain⟨ad121,e121,hx121_0⟩:=Kd.at_int HR1.out x5_1 p121 q121
         obtain rfl:ad119=ad121:=(by injection e121)
         replace p121:=eq_true p121
         replace q121:=eq_true q121
         go_wp2
         repeat (go_quiet (fail);try go_wp2)
         go_ret
         exact⟨by first|rfl|(simp;done)|(simp[*];done),by repeat (first|exact Drawn0.refl _|apply Drawn0.step)⟩
        rw[if_neg c9]at H
        have c9b0:decide ((rd l0 x5_1)<(rd l1 x5_1))=false:=decide_eq_false c9
        clear c9
        obtain rfl:=Option.some.inj H
        have p118:0≤(x5_1:Int):=of_decide_eq_true ‹_›
        have q118:x5_1<(l0.length:Int):=of_decide_eq_true ‹_›
        obtain⟨ad118,e118,hx118_0⟩:=Kd.at_int HR0.out x5_1 p118 q118
        cases e118
        replace p118:=eq_true p118
        replace q118:=eq_true q118
        have p119:0≤(x5_1:Int):=of_decide_eq_true ‹_›
        have q119:x5_1<(l1.length:Int):=of_decide_eq_true ‹_›
        obtain⟨ad119,e119,hx119_0⟩:=Kd.at_int HR1.out x5_1 p119 q119
        cases e119
        replace p119:=eq_true p119
        replace q119:=eq_true q119
        have p120:0≤(x5_1:Int):=of_decide_eq_true ‹_›
        have q120:x5_1<(l0.length:Int):=of_decide_eq_true ‹_›
        obtain⟨ad120,e120,hx120_0⟩:=Kd.at_int HR0.out x5_1 p120 q120
        obtain rfl:ad118=ad120:=(by injection e120)
        replace p120:=eq_true p120
        replace q120:=eq_true q120
        have p121:0≤(x5_1:Int):=of_decide_eq_true ‹_›
        have q121:x5_1<(l1.length:Int):=of_decide_eq_true ‹_›
        obtain⟨ad121,e121,hx121_0⟩:=Kd.at_int HR1.out x5_1 p121 q121
        obtain rfl:ad119=ad121:=(by injection e121)
        replace p121:=eq_true p121
        replace q121:=eq_true q121
        go_wp2
        repeat (go_quiet (fail);try go_wp2)
        go_ret
        exact⟨by first|rfl|(simp;done)|(simp[*];done),by repeat (first|exact Drawn0.refl _|apply Drawn0.step)⟩
       rw[if_neg c7]at H
       exact absurd H (by simp)
      rw[if_neg c6]at H
      exact absurd H (by simp)
     rw[if_neg c5]at H
     exact absurd H (by simp)
    rw[if_neg c4]at H
    have c4b0:decide (0≤x5_1)=false:=decide_eq_false c4
    clear c4
    obtain rfl:=Option.some.inj H
    go_wp2
    repeat (go_quiet (fail);try go_wp2)
    go_ret
    exact⟨by first|rfl|(simp;done)|(simp[*];done),by repeat (first|exact Drawn0.refl _|apply Drawn0.step)⟩
 rw[if_neg c3]at H
 have c3b0:((l0.length:Int)==(l1.length:Int))=false:=beq_eq_false_iff_ne.mpr c3
 have c3b1:((l0.length:Int) != (l1.length:Int))=true:=bne_iff_ne.mpr c3
 have c3b2:(l0.length==l1.length)=false:=by first|simpa using c3|(simp at c3 ⊢;omega)
 by_cases c10:(l0.length:Int)<(l1.length:Int)
 ·rw[if_pos c10]at H
  have c10b0:decide ((l0.length:Int)<(l1.length:Int))=true:=decide_eq_true c10
  have c10b1:decide (l0.length<l1.length)=true:=decide_eq_true (Int.ofNat_lt.mp c10)
  clear c10
  obtain rfl:=Option.some.inj H
  go_enter Tryz.func127,Tryz.ntmps127
  go_wp2
  repeat (go_quiet (fail);try go_wp2)
  go_ret
  exact⟨by first|rfl|(simp;done)|(simp[*];done),by repeat (first|exact Drawn0.refl _|apply Drawn0.step)⟩
 rw[if_neg c10]at H
 have c10b0:decide ((l0.length:Int)<(l1.length:Int))=false:=decide_eq_false c10
 have c10b1:decide (l0.length<l1.length)=false:=decide_eq_false (fun h=>c10 (Int.ofNat_lt.mpr h))
 clear c10
 obtain rfl:=Option.some.inj H
 go_enter Tryz.func127,Tryz.ntmps127
 go_wp2
 repeat (go_quiet (fail);try go_wp2)
 go_ret
 exact⟨by first|rfl|(simp;done)|(simp[*];done),by repeat (first|exact Drawn0.refl _|apply Drawn0.step)⟩
end Go.Proofs.YtikencoikigllaaGreatDoor.PRy
namespace Go.Proofs.YtikencoikigllaaGreatDoor.PRy
open Go.RowKit Go.Proofs.YtikencoikigllaaGreatDoorW.PrintWords Go.Proofs.YtikencoikigllaaGreatDoorW.PrintLast Go.Proofs.YtikencoikigllaaGreatDoorW.PrintMore
open Go.Proofs.YtikencoikigllaaGreatDoor.Mine
attribute [local go_sem] max2_int min2_int max_two min_two max_three min_three max_four min_four
mutual
def whole_number_cmp.j0:Nat→Bool→List Int→Bool→List Int→Bool→Option (Int)
 | 0,_,_,_,_,_=>none
 | k+1,x5,x123000,x123001,x124000,x124001=>if x5=true then(some (-1)) else(if x123001=true then(whole_number_cmp.j1 k false x123000 x123001 x124000 x124001) else(whole_number_cmp.j1 k x124001 x123000 x123001 x124000 x124001))
def whole_number_cmp.j1:Nat→Bool→List Int→Bool→List Int→Bool→Option (Int)
 | 0,_,_,_,_,_=>none
 | k+1,x13,x123000,x123001,x124000,x124001=>if x13=true then(some 1) else(if x123001=true then((whole_amount_cmp.f k x124000 x123000).bind fun t124=>(some t124)) else((whole_amount_cmp.f k x123000 x124000).bind fun t125=>(some t125)))
end
def whole_number_cmp.f (k:Nat) (l0_0:List Int) (a0_1:Bool) (l1_0:List Int) (a1_1:Bool):Option (Int):=if a0_1=true then(whole_number_cmp.j0 k (!a1_1) l0_0 a0_1 l1_0 a1_1) else(whole_number_cmp.j0 k false l0_0 a0_1 l1_0 a1_1)
theorem whole_number_cmp.calls (k:Nat) (A0_0:Option Addr) (c0_0:Nat) (l0_0:List Int) (a0_1:Bool) (A1_0:Option Addr) (c1_0:Nat) (l1_0:List Int) (a1_1:Bool) (r:Int) (w:World) (hr0_0:Kd.C (Kd.int .u64) w A0_0 l0_0.length l0_0) (hc0_0:l0_0.length≤c0_0) (hr1_0:Kd.C (Kd.int .u64) w A1_0 l1_0.length l1_0) (hc1_0:l1_0.length≤c1_0) (h:whole_number_cmp.f k l0_0 a0_1 l1_0 a1_1=some r) :
  Calls Tryz.prog 61 #[.agg #[.slice A0_0 l0_0.length c0_0,.bool a0_1],.agg #[.slice A1_0 l1_0.length c1_0,.bool a1_1]] w fun e w'=>e=.returned (.int .i64 r)∧Below w.heap.size w w':=by
 have hu80:=Tryz.underlying80
 have K:=Kp.refl w
 replace K:=K.parV (Kd.V_mono (ok':=fun _=>True) (Kd.V_mk (e:=72) (base:=0) hc0_0 (Kd.C_F (Kd.heap_int .u64) hr0_0)) (fun _ h=>trivial))
 clear hr0_0 hc0_0
 replace K:=K.parV (Kd.V_mono (ok':=fun _=>True) (Kd.V_mk (e:=72) (base:=0) hc1_0 (Kd.C_F (Kd.heap_int .u64) hr1_0)) (fun _ h=>trivial))
 clear hr1_0 hc1_0
 try simp only[klv]at K
 rw[whole_number_cmp.f]at h
 by_cases c_0:a0_1=true
 ·subst c_0
  rw[if_pos rfl]at h
  obtain⟨k,rfl⟩:∃j,k=j+1:=by
   cases k with
   | zero=>simp[whole_number_cmp.j0]at h
   | succ k=>exact⟨k,rfl⟩
  rw[whole_number_cmp.j0]at h
  by_cases c_1:(!a1_1)=true
  ·rw[if_pos c_1]at h
   simp only[Option.some.injEq]at h
   subst h
   go_enter Tryz.func61,Tryz.ntmps61
   go_wp2_with (first|(refine gd 2 rfl ?_;refine kbk 2 #[.slice A0_0 l0_0.length c0_0,.bool true] 80 K.u ?_;clear K;intro g1 W2 K)|(refine gd 3 rfl ?_;refine kbk 3 #[.slice A1_0 l1_0.length c1_0,.bool a1_1] 80 K.u ?_;clear K;intro g3 W4 K;obtain⟨ua0,ub0⟩:=K.cell2 0 rfl;obtain⟨ua1,ub1⟩:=K.cell2 1 rfl))
   go_ret
   exact⟨rfl,K.u.below⟩
  rw[if_neg c_1]at h
  replace c_1:=Bool.eq_false_iff.mpr c_1
  rw[if_pos rfl]at h
  obtain⟨k,rfl⟩:∃j,k=j+1:=by
   cases k with
   | zero=>simp[whole_number_cmp.j1]at h
   | succ k=>exact⟨k,rfl⟩
  rw[whole_number_cmp.j1]at h
  rw[if_neg (by decide)]at h
  rw[if_pos rfl]at h
  replace h:=bindA h
  obtain⟨n5,A6,h⟩:=h
  simp only[Option.some.injEq]at h
  subst h
  go_enter Tryz.func61,Tryz.ntmps61
  go_wp2_with (first|(refine gd 2 rfl ?_;refine kbk 2 #[.slice A0_0 l0_0.length c0_0,.bool true] 80 K.u ?_;clear K;intro g1 W2 K)|(refine gd 3 rfl ?_;refine kbk 3 #[.slice A1_0 l1_0.length c1_0,.bool a1_1] 80 K.u ?_;clear K;intro g3 W4 K;obtain⟨ua0,ub0⟩:=K.cell2 0 rfl;obtain⟨ua1,ub1⟩:=K.cell2 1 rfl)|(refine gd 28 rfl ?_;clear ua0 ub0 ua1 ub1;refine kgl (some 28) rfl rfl Tryz.func127 #[.slice A1_0 l1_0.length c1_0,.slice A0_0 l0_0.length c0_0] rfl ?_;refine(whole_amount_cmp.calls _ _ _ l1_0 _ _ l0_0 n5 _ (K.C 1 rfl) (K.le 1 rfl) (K.C 0 rfl) (K.le 0 rfl) A6.out).mono ?_;rintro e W7 ⟨rfl,hb⟩;refine⟨_,rfl,?_⟩;replace K:=K.u.up hb.below;clear hb))
  go_ret
  exact⟨rfl,K.u.below⟩
 replace c_0:=Bool.eq_false_iff.mpr c_0
 subst c_0
 rw[if_neg (by decide)]at h
 obtain⟨k,rfl⟩:∃j,k=j+1:=by
  cases k with
  | zero=>simp[whole_number_cmp.j0]at h
  | succ k=>exact⟨k,rfl⟩
 rw[whole_number_cmp.j0]at h
 rw[if_neg (by decide)]at h
 rw[if_neg (by decide)]at h
 obtain⟨k,rfl⟩:∃j,k=j+1:=by
  cases k with
  | zero=>simp[whole_number_cmp.j1]at h
  | succ k=>exact⟨k,rfl⟩
 rw[whole_number_cmp.j1]at h
 by_cases c_2:a1_1=true
 ·subst c_2
  rw[if_pos rfl]at h
  simp only[Option.some.injEq]at h
  subst h
  go_enter Tryz.func61,Tryz.ntmps61
  go_wp2_with (first|(refine gd 2 rfl ?_;refine kbk 2 #[.slice A0_0 l0_0.length c0_0,.bool false] 80 K.u ?_;clear K;intro g1 W2 K)|(refine gd 3 rfl ?_;refine kbk 3 #[.slice A1_0 l1_0.length c1_0,.bool true] 80 K.u ?_;clear K;intro g3 W4 K;obtain⟨ua0,ub0⟩:=K.cell2 0 rfl;obtain⟨ua1,ub1⟩:=K.cell2 1 rfl))
  go_ret
  exact⟨rfl,K.u.below⟩
 replace c_2:=Bool.eq_false_iff.mpr c_2
 subst c_2
 rw[if_neg (by decide)]at h
 rw[if_neg (by decide)]at h
 replace h:=bindA h
 obtain⟨n5,A6,h⟩:=h
 simp only[Option.some.injEq]at h
 subst h
 go_enter Tryz.func61,Tryz.ntmps61
 go_wp2_with (first|(refine gd 2 rfl ?_;refine kbk 2 #[.slice A0_0 l0_0.length c0_0,.bool false] 80 K.u ?_;clear K;intro g1 W2 K)|(refine gd 3 rfl ?_;refine kbk 3 #[.slice A1_0 l1_0.length c1_0,.bool false] 80 K.u ?_;clear K;intro g3 W4 K;obtain⟨ua0,ub0⟩:=K.cell2 0 rfl;obtain⟨ua1,ub1⟩:=K.cell2 1 rfl)|(refine gd 33 rfl ?_;clear ua0 ub0 ua1 ub1;refine kgl (some 33) rfl rfl Tryz.func127 #[.slice A0_0 l0_0.length c0_0,.slice A1_0 l1_0.length c1_0] rfl ?_;refine(whole_amount_cmp.calls _ _ _ l0_0 _ _ l1_0 n5 _ (K.C 0 rfl) (K.le 0 rfl) (K.C 1 rfl) (K.le 1 rfl) A6.out).mono ?_;rintro e W7 ⟨rfl,hb⟩;refine⟨_,rfl,?_⟩;replace K:=K.u.up hb.below;clear hb))
 go_ret
 exact⟨rfl,K.u.below⟩
end Go.Proofs.YtikencoikigllaaGreatDoor.PRy
namespace Go.Proofs.YtikencoikigllaaGreatDoor.PRy
open Go.RowKit Go.Proofs.YtikencoikigllaaGreatDoorW.PrintWords Go.Proofs.YtikencoikigllaaGreatDoorW.PrintLast Go.Proofs.YtikencoikigllaaGreatDoorW.PrintMore
open Go.Proofs.YtikencoikigllaaGreatDoor.Mine
attribute [local go_sem] max2_int min2_int max_two min_two max_three min_three max_four min_four
def whole_Cmp.f (k:Nat) (a0_0:Bool) (l0_1:List Int) (a1_0:Bool) (l1_1:List Int):Option (Int):=(whole_of.f k a0_0 l0_1).bind fun bt128=>((whole_of.f k a1_0 l1_1).bind fun bt132=>((whole_number_cmp.f k bt128.1 bt128.2 bt132.1 bt132.2).bind fun t136=>(some t136)))
theorem whole_Cmp.calls (k:Nat) (a0_0:Bool) (A0_1:Option Addr) (c0_1:Nat) (l0_1:List Int) (a1_0:Bool) (A1_1:Option Addr) (c1_1:Nat) (l1_1:List Int) (r:Int) (w:World) (hr0_1:Kd.C (Kd.int .u64) w A0_1 l0_1.length l0_1) (hc0_1:l0_1.length≤c0_1) (hr1_1:Kd.C (Kd.int .u64) w A1_1 l1_1.length l1_1) (hc1_1:l1_1.length≤c1_1) (h:whole_Cmp.f k a0_0 l0_1 a1_0 l1_1=some r) :
  Calls Tryz.prog 16 #[.agg #[.bool a0_0,.slice A0_1 l0_1.length c0_1],.agg #[.bool a1_0,.slice A1_1 l1_1.length c1_1]] w fun e w'=>e=.returned (.int .i64 r)∧Below w.heap.size w w':=by
 have hu26:=Tryz.underlying26
 have K:=Kp.refl w
 replace K:=K.parV (Kd.V_mono (ok':=fun _=>True) (Kd.V_mk (e:=72) (base:=0) hc0_1 (Kd.C_F (Kd.heap_int .u64) hr0_1)) (fun _ h=>trivial))
 clear hr0_1 hc0_1
 replace K:=K.parV (Kd.V_mono (ok':=fun _=>True) (Kd.V_mk (e:=72) (base:=0) hc1_1 (Kd.C_F (Kd.heap_int .u64) hr1_1)) (fun _ h=>trivial))
 clear hr1_1 hc1_1
 try simp only[klv]at K
 rw[whole_Cmp.f]at h
 go_enter Tryz.func16,Tryz.ntmps16
 go_wp2_with (first|(refine gd 2 rfl ?_;refine kbk 2 #[.bool a0_0,.slice A0_1 l0_1.length c0_1] 26 K.u ?_;clear K;intro g1 W2 K)|(refine gd 3 rfl ?_;refine kbk 3 #[.bool a1_0,.slice A1_1 l1_1.length c1_1] 26 K.u ?_;clear K;intro g3 W4 K))
 replace h:=bindA h
 obtain⟨⟨x5,z6⟩,A7,h⟩:=h
 dsimp only at h
 replace h:=bindA h
 obtain⟨⟨x8,z9⟩,A10,h⟩:=h
 dsimp only at h
 replace h:=bindA h
 obtain⟨n11,A12,h⟩:=h
 obtain⟨Bs,Vs,Os,hBs,hVs,hOs,K⟩:=K.abs
 have HS:Aside0 (∀l m o W,Kp w (Bs++l) m o W→W.cell? ⟨g1,0,none⟩=some (.bool a0_0)∧W.cell? ⟨g1,1,none⟩=some (.slice A0_1 l0_1.length c0_1)∧W.cell? ⟨g3,0,none⟩=some (.bool a1_0)∧W.cell? ⟨g3,1,none⟩=some (.slice A1_1 l1_1.length c1_1)):=⟨fun l m o W K=>by rw[hBs.out]at K;exact⟨K.cell 0 rfl 0 rfl,K.cell 0 rfl 1 rfl,K.cell 1 rfl 0 rfl,K.cell 1 rfl 1 rfl⟩⟩
 refine kpstart (n:=6) (ds:=[]) (S:=fun W=>W.cell? ⟨g1,0,none⟩=some (.bool a0_0)∧W.cell? ⟨g1,1,none⟩=some (.slice A0_1 l0_1.length c0_1)∧W.cell? ⟨g3,0,none⟩=some (.bool a1_0)∧W.cell? ⟨g3,1,none⟩=some (.slice A1_1 l1_1.length c1_1)) (bm_ 6 0) (by kernel_rfl) rfl rfl K (HS.out [] _ _) (fun W15 K hH=>?_)
 refine tk_ 0 5 ?_ (bm_ 6 1) rfl rfl (by kernel_rfl) (fun _ _ _ h=>h) (by rfl) ?_ hH ?_ ?_ ?_
 rotate_left
 ·rintro w' ⟨s0,s1,s2,s3⟩
  go_simp
  with_reducible rfl
 rotate_left
 ·simp only[Act.put,kss,i64_w,i32_w]
  rfl
 refine tk_ 2 7 ?_ (bm_ 6 5) rfl rfl (by kernel_rfl) (fun _ _ _ h=>h) (by rfl) ?_ hH ?_ ?_ ?_
 rotate_left
 ·rintro w' ⟨s0,s1,s2,s3⟩
  go_simp
  with_reducible rfl
 rotate_left
 ·simp only[Act.put,kss,i64_w,i32_w]
  rfl
 refine one_ (i:=1) (N:=some 6) (bm_ 6 7) rfl rfl (by kernel_rfl) (by decide) (fun Kc hK=>?_)
 refine kgo Tryz.func52 #[.agg #[.bool a0_0,.slice A0_1 l0_1.length c0_1]] (by rfl) rfl rfl ?_
 refine(whole_of.calls _ a0_0 _ _ _ l0_1 x5 z6 _ (K.V 0 (hv hVs rfl)) A7.out).mono ?_
 rintro e W' ⟨v13,rfl,ho16,hb⟩
 replace K:=K.addI 0 (fun _=>True) hb ho16 (fun _ h=>h.t)
 clear hb ho16
 refine⟨_,rfl,hK.out _ _ (HS.out _ _ _ _ K) fun hH=>?_⟩
 clear hK Kc
 refine norm_ (a':=?_) ?_ ?_
 rotate_left
 ·show Act.put _ (some 6) _=_
  simp only[Act.put,kss,i64_w,i32_w]
  rfl
 refine one_ (i:=3) (N:=some 8) (bm_ 6 15) rfl rfl (by kernel_rfl) (by decide) (fun Kc hK=>?_)
 refine kgo Tryz.func52 #[.agg #[.bool a1_0,.slice A1_1 l1_1.length c1_1]] (by rfl) rfl rfl ?_
 refine(whole_of.calls _ a1_0 _ _ _ l1_1 x8 z9 _ (K.V 1 (hv hVs rfl)) A10.out).mono ?_
 rintro e W' ⟨v14,rfl,ho17,hb⟩
 replace K:=K.addI 1 (fun _=>True) hb ho17 (fun _ h=>h.t)
 clear hb ho17
 refine⟨_,rfl,hK.out _ _ (HS.out _ _ _ _ K) fun hH=>?_⟩
 clear hK Kc
 refine norm_ (a':=?_) ?_ ?_
 rotate_left
 ·show Act.put _ (some 8) _=_
  simp only[Act.put,kss,i64_w,i32_w]
  rfl
 refine one_ (i:=4) (N:=some 9) (bm_ 6 31) rfl rfl (by kernel_rfl) (by decide) (fun Kc hK=>?_)
 obtain⟨P18,c19,e20⟩:=K.slice 2 (hv hVs rfl)
 subst e20
 obtain⟨P21,c22,e23⟩:=K.slice 3 (hv hVs rfl)
 subst e23
 refine kgo Tryz.func61 #[.agg #[.slice P18 x5.length c19,.bool z6],.agg #[.slice P21 x8.length c22,.bool z9]] (by rfl) rfl rfl ?_
 refine(whole_number_cmp.calls _ _ _ x5 z6 _ _ x8 z9 n11 _ (K.C 2 (hv hVs rfl)) (K.le 2 (hv hVs rfl)) (K.C 3 (hv hVs rfl)) (K.le 3 (hv hVs rfl)) A12.out).mono ?_
 rintro e W' ⟨rfl,hb⟩
 replace K:=K.up hb
 clear hb
 refine⟨_,rfl,hK.out _ _ (HS.out _ _ _ _ K) fun hH=>?_⟩
 refine norm_ (a':=?_) ?_ ?_
 rotate_left
 ·show Act.put _ (some 9) _=_
  simp only[Act.put,kss,i64_w,i32_w]
  rfl
 refine pu_ 5 4 ?_ (bm_ 6 63) rfl rfl (by kernel_rfl) (fun _ _ _ h=>h) (by rfl) ?_ ?_ ?_ ?_
 rotate_left
 ·intro w'
  go_simp
  with_reducible rfl
 rotate_left
 ·simp only[Act.put,kss,i64_w,i32_w]
  rfl
 clear hK Kc
 rw[hBs.out,hVs.out,hOs.out]at K
 simp only[kls,klv]at K
 clear hBs hVs hOs HS hH
 refine done_ (by kernel_rfl) ?_
 simp only[Option.some.injEq]at h
 subst h
 go_wp2
 go_ret
 exact⟨rfl,K.u.below⟩
end Go.Proofs.YtikencoikigllaaGreatDoor.PRy
namespace Go.Proofs.YtikencoikigllaaGreatDoor.PRy
open Go.RowKit Go.Proofs.YtikencoikigllaaGreatDoorW.PrintWords Go.Proofs.YtikencoikigllaaGreatDoorW.PrintLast Go.Proofs.YtikencoikigllaaGreatDoorW.PrintMore
open Go.Proofs.YtikencoikigllaaGreatDoor.Mine
attribute [local go_sem] max2_int min2_int max_two min_two max_three min_three max_four min_four
set_option linter.unusedVariables false
set_option linter.unusedSimpArgs false
theorem cut_to3 {P:Program} (t e:TypeId) (kh km:IntKind) {i:TypeInfo} (ht:P.underlying t=some (.slice e)) (hi:P.info? e=some i) (A:Option Addr) (n c:Nat) (j:Int) (h0:0≤j) (hm:j≤n) (hc:n≤c) :
  ∀W:World,(Instr.slice t (.slice A n c) none (some (.int kh j)) (some (.int km j))).run P W=.ok (.slice A j.toNat j.toNat) W:=by
 intro W
 have hel:P.elem t=e:=by simp[Program.elem,ht]
 have hu:P.underlying t=some (.slice (P.elem t)):=by rw[hel];exact ht
 have ha:(A.map fun x=>x.add 0)=A:=by cases A<;>simp[Addr.add]
 rw[run_slice_hm W t A n c hu kh km j j h0 (by omega) (by omega),hel]
 simp[sizeOf,typeInfo,hi,sliced,Result.andThen,ha]
def nat_trim.l0:Nat→List Int→Int→Option (List Int)
 | 0,_,_=>none
 | k+1,x0,x3=>if x3>0 then(if 0≤(wrap64 (x3-1)) then(if(wrap64 (x3-1))<(x0.length:Int) then(if(rd x0 (wrap64 (x3-1)))=0 then(nat_trim.l0 k x0 (wrap64 (x3-1))) else(if 0≤x3 then(if x3≤(x0.length:Int) then(some (x0.take (x3:Int).toNat)) else(none)) else(none))) else(none)) else(none)) else(if 0≤x3 then(if x3≤(x0.length:Int) then(some (x0.take (x3:Int).toNat)) else(none)) else(none))
def nat_trim.f (k:Nat) (l0:List Int):Option (List Int):=nat_trim.l0 k l0 (l0.length:Int)
theorem nat_trim.calls (k:Nat) (P0_:Nat→Prop) (A0:Option Addr) (c0:Nat) (l0:List Int) (r:List Int) (w:World) (hs0:Kd.V (Kd.int .u64) 72 w w.heap.size (fun k_=>P0_ k_) (.slice A0 l0.length c0) l0) (h:nat_trim.f k l0=some r) :
  Calls Tryz.prog 143 #[.slice A0 l0.length c0] w fun e w'=>∃v0_:Value,e=.returned (v0_)∧Kd.V (Kd.int .u64) 72 w' w.heap.size (fun k_=>(P0_ k_∨w.heap.size≤k_)) v0_ r∧Below w.heap.size w w':=by
 have HO0:=Aside0.mk (show Kd.V (Kd.int .u64) 72 w w.heap.size (fun k_=>(P0_ k_∨w.heap.size≤k_)) (.slice A0 l0.length c0) l0 from Kd.V_mono hs0 (fun k_ hk=>.inl hk))
 have HB:=Aside0.mk (Below.refl w.heap.size w)
 have H:(nat_trim.l0 k l0 (l0.length:Int))=some r:=h
 clear h
 have H':=Aside0.mk H
 clear H
 go_enter Tryz.func143,Tryz.ntmps143
 go_wp2
 go_loopg [3] k (fun kq v3 w'=>∃(x3_1:Int),v3=.int .i64 x3_1∧Aside0 (nat_trim.l0 kq l0 x3_1=some r)∧Aside0 (kq≤k)∧Aside0 (Kd.V (Kd.int .u64) 72 w' w.heap.size (fun k_=>(P0_ k_∨w.heap.size≤k_)) (.slice A0 l0.length c0) l0)∧Aside0 (Below w.heap.size w w'))
 case atStart=>exact⟨((l0.length:Int)),(by first|rfl|(simp;done)|(simp[*];done)),H',⟨Nat.le_refl _⟩,⟨by(with_reducible repeat (first|apply Kd.V_alloc|apply Kd.V_drewN|apply Kd.V_drew));exact HO0.out⟩,⟨by repeat (first|(with_reducible first|exact HB.out|apply below_alloc|apply pw_below_drewN|apply below_drew1)|exact HB.out)⟩⟩
 case round=>
  clear H'
  obtain⟨x3_1,rfl,HA,HK1,HO_0,HB⟩:=hrel
  cases gk with
  | zero=>exact absurd HA.out (by simp[nat_trim.l0])
  | succ k1=>
   have H:=HA.out
   clear HA
   simp only[nat_trim.l0]at H
   by_cases c2:x3_1>0
   ·rw [if_pos c2]at H
    have c2b0:decide (0<x3_1)=true:=decide_eq_true c2
    clear c2
    obtain⟨ji3,hji3⟩:∃j_:Int,(wrap64 (x3_1-1))=j_:=⟨_,rfl⟩
    replace H:(if 0≤(ji3) then(if(ji3)<(l0.length:Int) then(if(rd l0 (ji3))=0 then(nat_trim.l0 k1 l0 ji3) else(if 0≤x3_1 then(if x3_1≤(l0.length:Int) then(some (l0.take (x3_1:Int).toNat)) else(none)) else(none))) else(none)) else(none))=some r:=by first|(rw[hji3]at H;exact H)|(simp only[hji3]at H ⊢;exact H)
    have hji3w:(IntKind.i64.wrap (x3_1-1))=ji3:=(i64_w _).trans hji3
    by_cases c4:0≤(ji3)
    ·rw [if_pos c4]at H
     have c4b0:decide (0≤(ji3))=true:=decide_eq_true c4
     clear c4
     by_cases c5:(ji3)<(l0.length:Int)
     ·rw[if_pos c5]at H
      have c5b0:decide ((ji3)<(l0.length:Int))=true:=decide_eq_true c5
      clear c5
      by_cases c6:(rd l0 (ji3))=0
      ·rw[if_pos c6]at H
       have c6b0:((rd l0 (ji3))==0)=true:=beq_iff_eq.mpr c6
       have c6b1:((rd l0 (ji3)) != 0)=false:=bne_eq_false_iff_eq.mpr c6
       clear c6
       have H':=Aside0.mk H
       clear H
       have p101:0≤((ji3):Int):=of_decide_eq_true (by first|(with_reducible assumption)|assumption)
       have q101:(ji3)<(l0.length:Int):=of_decide_eq_true (by first|(with_reducible assumption)|assumption)
       obtain⟨ad101,e101,hx101_0⟩:=Kd.at_int (Kd.V_reads' HO_0.out).2.2 (ji3) p101 q101
       cases e101
       replace p101:=eq_true p101
       replace q101:=eq_true q101
       go_wp2
       go_roundg k1
       case measure=>have:=HK1.out;omega
       case rel=>exact⟨(ji3),(by first|rfl|(simp;done)|(simp only[←hji3]<;>(first|rfl|simp))|(simp[*];done)),H',⟨by have:=HK1.out;omega⟩,⟨by(with_reducible repeat (first|apply Kd.V_alloc|apply Kd.V_drewN|apply Kd.V_drew));exact HO_0.out⟩,⟨by repeat (first|(with_reducible first|exact HB.out|apply below_alloc|apply pw_below_drewN|apply below_drew1)|exact HB.out)⟩⟩
      rw[if_neg c6]at H
      have c6b0:((rd l0 (ji3))==0)=false:=beq_eq_false_iff_ne.mpr c6
      have c6b1:((rd l0 (ji3)) != 0)=true:=bne_iff_ne.mpr c6
      by_cases c7:0≤x3_1
      ·rw[if_pos c7]at H
       have c7b0:=eq_true c7
       have c7b1:decide (0≤x3_1)=true:=decide_eq_true c7
       clear c7
       by_cases c8:x3_1≤(l0.length:Int)
       ·rw[if_pos c8]at H
        have c8b0:=eq_true c8
        have c8b1:decide (x3_1≤(l0.length:Int))=true:=decide_eq_true c8
        clear c8
        obtain⟨y102,hy102⟩:∃y_:List Int,y_=(l0.take (x3_1:Int).toNat):=⟨_,rfl⟩
        replace H:(some y102)=some r:=by first|(rw[hy102];with_reducible exact H)|(have H2_:=(Option.bind_some _ _).symm.trans H;rw[hy102];with_reducible exact H2_)|(have H2_:=(Option.bind_some _ _).symm.trans H;with_reducible exact H2_)|with_reducible exact H|(rw[hy102];exact H)|exact H
        have Ny102:=Aside0.mk hy102
        clear hy102
        obtain rfl:=Option.some.inj H
        have p101:0≤((ji3):Int):=of_decide_eq_true (by first|(with_reducible assumption)|assumption)
        have q101:(ji3)<(l0.length:Int):=of_decide_eq_true (by first|(with_reducible assumption)|assumption)
        obtain⟨ad101,e101,hx101_0⟩:=Kd.at_int (Kd.V_reads' HO_0.out).2.2 (ji3) p101 q101
        cases e101
        replace p101:=eq_true p101
        replace q101:=eq_true q101
        have q9:(x3_1:Int)≤((l0.length:Int):Int):=of_decide_eq_true (by first|(with_reducible assumption)|assumption)
        obtain⟨i09,hi09,_,hsz9,_⟩:=info_parts info72
        have hroom9:l0.length≤c0:=(Kd.V_reads' HO_0.out).2.1
        have hC9:Kd.F (Kd.int .u64) _ _ (some ad101) l0.length l0:=(Kd.V_at (base:=w.heap.size) HO_0.out).2.2
        have hcut9:=cut_to3 (P:=Tryz.prog) 24 72 .i64 .i64 Tryz.underlying24 hi09 (some ad101) l0.length c0 x3_1 (of_decide_eq_true (by first|(with_reducible assumption)|assumption)) q9 hroom9
        have hr9:=Kd.F_take (m:=(x3_1:Int).toNat) hC9 (by omega)
        have hy9:y102.length=(x3_1:Int).toNat:=(by rw[Ny102.out,List.length_take];omega)
        rw[←Ny102.out]at hr9
        rw[←hy9]at hcut9
        have HO106:=Aside0.mk (show Kd.V (Kd.int .u64) 72 _ w.heap.size _ (.slice (some ad101) y102.length y102.length) y102 from Kd.V_mk (by omega) hr9)
        have HC106:=Aside0.mk (show y102.length≤c0 from by omega)
        clear hr9 hC9 hroom9 hi09 hsz9
        have KY9:=Aside0.mk hy9
        clear hy9
        replace q9:=eq_true q9
        go_wp2
        go_ret
        exact⟨_,by first|rfl|(simp[errW_none,errW_some]<;>rfl)|(simp only[←hji3];first|rfl|(simp[errW_none,errW_some]<;>rfl))|(simp[*,errW_none,errW_some]<;>rfl),by(with_reducible repeat (first|apply Kd.V_alloc|apply Kd.V_drewN|apply Kd.V_drew));exact HO106.out,by repeat (first|(with_reducible first|exact HB.out|apply below_alloc|apply pw_below_drewN|apply below_drew1)|exact HB.out)⟩
       rw[if_neg c8]at H
       exact absurd H (by simp)
      rw[if_neg c7]at H
      exact absurd H (by simp)
     rw[if_neg c5]at H
     exact absurd H (by simp)
    rw[if_neg c4]at H
    exact absurd H (by simp)
   rw[if_neg c2]at H
   have c2b0:decide (0<x3_1)=false:=decide_eq_false c2
   clear c2
   by_cases c10:0≤x3_1
   ·rw[if_pos c10]at H
    have c10b0:=eq_true c10
    have c10b1:decide (0≤x3_1)=true:=decide_eq_true c10
    clear c10
    by_cases c11:x3_1≤(l0.length:Int)
    ·rw[if_pos c11]at H
     have c11b0:=eq_true c11
     have c11b1:decide (x3_1≤(l0.length:Int))=true:=decide_eq_true c11
     clear c11
     obtain⟨y107,hy107⟩:∃y_:List Int,y_=(l0.take (x3_1:Int).toNat):=⟨_,rfl⟩
     replace H:(some y107)=some r:=by first|(rw[hy107];with_reducible exact H)|(have H2_:=(Option.bind_some _ _).symm.trans H;rw[hy107];with_reducible exact H2_)|(have H2_:=(Option.bind_some _ _).symm.trans H;with_reducible exact H2_)|with_reducible exact H|(rw[hy107];exact H)|exact H
     have Ny107:=Aside0.mk hy107
     clear hy107
     obtain rfl:=Option.some.inj H
     have q12:(x3_1:Int)≤((l0.length:Int):Int):=of_decide_eq_true (by first|(with_reducible assumption)|assumption)
     obtain⟨i012,hi012,_,hsz12,_⟩:=info_parts info72
     have hroom12:l0.length≤c0:=(Kd.V_reads' HO_0.out).2.1
     have hC12:Kd.F (Kd.int .u64) _ _ A0 l0.length l0:=(Kd.V_at (base:=w.heap.size) HO_0.out).2.2
     have hcut12:=cut_to3 (P:=Tryz.prog) 24 72 .i64 .i64 Tryz.underlying24 hi012 A0 l0.length c0 x3_1 (of_decide_eq_true (by first|(with_reducible assumption)|assumption)) q12 hroom12
     have hr12:=Kd.F_take (m:=(x3_1:Int).toNat) hC12 (by omega)
     have hy12:y107.length=(x3_1:Int).toNat:=(by rw[Ny107.out,List.length_take];omega)
     rw[←Ny107.out]at hr12
     rw[←hy12]at hcut12
     have HO111:=Aside0.mk (show Kd.V (Kd.int .u64) 72 _ w.heap.size _ (.slice A0 y107.length y107.length) y107 from Kd.V_mk (by omega) hr12)
     have HC111:=Aside0.mk (show y107.length≤c0 from by omega)
     clear hr12 hC12 hroom12 hi012 hsz12
     have KY12:=Aside0.mk hy12
     clear hy12
     replace q12:=eq_true q12
     go_wp2
     go_ret
     exact⟨_,by first|rfl|(simp[errW_none,errW_some]<;>rfl)|(simp[*,errW_none,errW_some]<;>rfl),by(with_reducible repeat (first|apply Kd.V_alloc|apply Kd.V_drewN|apply Kd.V_drew));exact HO111.out,by repeat (first|(with_reducible first|exact HB.out|apply below_alloc|apply pw_below_drewN|apply below_drew1)|exact HB.out)⟩
    rw[if_neg c11]at H
    exact absurd H (by simp)
   rw[if_neg c10]at H
   exact absurd H (by simp)
end Go.Proofs.YtikencoikigllaaGreatDoor.PRy
namespace Go.Proofs.YtikencoikigllaaGreatDoor.PRy
open Go.RowKit Go.Proofs.YtikencoikigllaaGreatDoorW.PrintWords Go.Proofs.YtikencoikigllaaGreatDoorW.PrintLast Go.Proofs.YtikencoikigllaaGreatDoorW.PrintMore
open Go.Proofs.YtikencoikigllaaGreatDoor.Mine
attribute [local go_sem] max2_int min2_int max_two min_two max_three min_three max_four min_four
def nat_Len.f (k:Nat) (l0:List Int):Option (Int):=(nat_trim.f k l0).bind fun t137=>(if(t137.length:Int)=0 then(some 0) else(if 0≤(wrap64 ((t137.length:Int)-1)) then(if(wrap64 ((t137.length:Int)-1))<(t137.length:Int) then((bits_Len64.f (rd t137 (wrap64 ((t137.length:Int)-1)))).bind fun t141=>(some (wrap64 ((wrap64 (64*(wrap64 ((t137.length:Int)-1))))+t141)))) else(none)) else(none)))
theorem nat_Len.calls (k:Nat) (A0:Option Addr) (c0:Nat) (l0:List Int) (r:Int) (w:World) (hr0:Kd.C (Kd.int .u64) w A0 l0.length l0) (hc0:l0.length≤c0) (h:nat_Len.f k l0=some r) :
  Calls Tryz.prog 128 #[.slice A0 l0.length c0] w fun e w'=>e=.returned (.int .i64 r)∧Below w.heap.size w w':=by
 have HR0:=Aside0.mk hr0
 have HC0:=Aside0.mk hc0
 clear hr0 hc0
 have HB:=Aside0.mk (Below.refl w.heap.size w)
 have H:((nat_trim.f k l0).bind fun t137=>(if(t137.length:Int)=0 then(some 0) else(if 0≤(wrap64 ((t137.length:Int)-1)) then(if(wrap64 ((t137.length:Int)-1))<(t137.length:Int) then((bits_Len64.f (rd t137 (wrap64 ((t137.length:Int)-1)))).bind fun t141=>(some (wrap64 ((wrap64 (64*(wrap64 ((t137.length:Int)-1))))+t141)))) else(none)) else(none))))=some r:=h
 clear h
 replace H:=Option.bind_eq_some_iff.mp H
 obtain⟨t137,A20,H⟩:=H
 replace H:(if(t137.length:Int)=0 then(some 0) else(if 0≤(wrap64 ((t137.length:Int)-1)) then(if(wrap64 ((t137.length:Int)-1))<(t137.length:Int) then((bits_Len64.f (rd t137 (wrap64 ((t137.length:Int)-1)))).bind fun t141=>(some (wrap64 ((wrap64 (64*(wrap64 ((t137.length:Int)-1))))+t141)))) else(none)) else(none)))=some r:=H
 have A2:=Aside0.mk A20
 clear A20
 by_cases c3:(t137.length:Int)=0
 ·rw[if_pos c3]at H
  have c3b0:((t137.length:Int)==0)=true:=beq_iff_eq.mpr c3
  have c3b1:((t137.length:Int) != 0)=false:=bne_eq_false_iff_eq.mpr c3
  clear c3
  obtain rfl:=Option.some.inj H
  go_enter Tryz.func128,Tryz.ntmps128
  go_wp2_with (first|((with_reducible refine gate_callee (f:=143) rfl ?_);refine kgl (some 4) rfl rfl Tryz.func143 #[.slice A0 l0.length c0] rfl ?_;(with_reducible refine(nat_trim.calls k (fun k_=>k_<w.heap.size) _ _ l0 t137 _ ?side1 A2.out).mono ?_);(case side1=>exact Kd.V_mk HC0.out (Kd.F_below (Kd.C_F (Kd.heap_int .u64) HR0.out) (khu HB.out)));rintro e w4 ⟨v138,rfl,ho0,hb⟩;refine⟨_,rfl,?_⟩;have HO139:=Aside0.mk (Kd.V_lower (Kd.V_mono (ok':=fun k_=>True) ho0 (fun k_ hk_=>trivial)) (below_size (khu HB.out)));replace HB:=kbs HB hb;(try clear hb);(try clear hb2);(try clear hk);(try clear hi);(try clear ho0);obtain⟨Ao5,co5,eo5⟩:=Kd.V_slice HO139.out;subst eo5))
  go_ret
  exact⟨by first|rfl|(simp[*,errW_none,errW_some]<;>rfl),khu HB.out⟩
 rw[if_neg c3]at H
 have c3b0:((t137.length:Int)==0)=false:=beq_eq_false_iff_ne.mpr c3
 have c3b1:((t137.length:Int) != 0)=true:=bne_iff_ne.mpr c3
 have c3b2:¬(t137=[]):=fun h_=>c3 (by rw[h_];rfl)
 obtain⟨ji6,hji6⟩:∃j_:Int,(wrap64 ((t137.length:Int)-1))=j_:=⟨_,rfl⟩
 replace H:(if 0≤(ji6) then(if(ji6)<(t137.length:Int) then((bits_Len64.f (rd t137 (ji6))).bind fun t141=>(some (wrap64 ((wrap64 (64*(ji6)))+t141)))) else(none)) else(none))=some r:=by first|(rw[hji6]at H;exact H)|(simp only[hji6]at H ⊢;exact H)
 (try rw[hji6]at A2)
 have hji6w:(IntKind.i64.wrap ((t137.length:Int)-1))=ji6:=(i64_w _).trans hji6
 by_cases c7:0≤(ji6)
 ·rw[if_pos c7]at H
  have c7b0:decide (0≤(ji6))=true:=decide_eq_true c7
  clear c7
  by_cases c8:(ji6)<(t137.length:Int)
  ·rw[if_pos c8]at H
   have c8b0:decide ((ji6)<(t137.length:Int))=true:=decide_eq_true c8
   clear c8
   replace H:=Option.bind_eq_some_iff.mp H
   obtain⟨t141,A90,H⟩:=H
   replace H:(some (wrap64 ((wrap64 (64*(ji6)))+t141)))=some r:=H
   have A9:=Aside0.mk A90
   clear A90
   obtain rfl:=Option.some.inj H
   go_enter Tryz.func128,Tryz.ntmps128
   go_wp2_with (first|((with_reducible refine gate_callee (f:=143) rfl ?_);refine kgl (some 4) rfl rfl Tryz.func143 #[.slice A0 l0.length c0] rfl ?_;(with_reducible refine(nat_trim.calls k (fun k_=>k_<w.heap.size) _ _ l0 t137 _ ?side1 A2.out).mono ?_);(case side1=>exact Kd.V_mk HC0.out (Kd.F_below (Kd.C_F (Kd.heap_int .u64) HR0.out) (khu HB.out)));rintro e w10 ⟨v138,rfl,ho0,hb⟩;refine⟨_,rfl,?_⟩;have HO139:=Aside0.mk (Kd.V_lower (Kd.V_mono (ok':=fun k_=>True) ho0 (fun k_ hk_=>trivial)) (below_size (khu HB.out)));replace HB:=kbs HB hb;(try clear hb);(try clear hb2);(try clear hk);(try clear hi);(try clear ho0);obtain⟨Ao11,co11,eo11⟩:=Kd.V_slice HO139.out;subst eo11;have p140:0≤((ji6):Int):=of_decide_eq_true ‹_›;have q140:(ji6)<(t137.length:Int):=of_decide_eq_true ‹_›;obtain⟨ad140,e140,hx140_0⟩:=Kd.at_int (Kd.V_reads' HO139.out).2.2 (ji6) p140 q140;cases e140;replace p140:=eq_true p140;replace q140:=eq_true q140)|((with_reducible refine gate_callee (f:=188) rfl ?_);refine goesL_ (some 18) rfl rfl Tryz.func188 (by kernel_rfl) rfl #[.int .u64 (rd t137 (ji6))] rfl (by(try simp only[List.map_toArray,List.map_cons,List.map_nil]);first|done|(simp only[hji6];rfl)|rfl|(simp only[List.length_drop,List.length_take];rfl)) ?_;(with_reducible refine(bits_Len64.calls (rd t137 (ji6)) t141 _ A9.out).mono ?_);rintro e w' ⟨rfl,⟨nd,rfl⟩⟩;refine⟨_,rfl,?_⟩))
   go_ret
   exact⟨by first|rfl|(simp[errW_none,errW_some]<;>rfl)|(simp only[←hji6];first|rfl|(simp[errW_none,errW_some]<;>rfl))|(simp[*,errW_none,errW_some]<;>rfl),khu HB.out⟩
  rw[if_neg c8]at H
  exact absurd H (by simp)
 rw[if_neg c7]at H
 exact absurd H (by simp)
def ratio_number_long.f (k:Nat) (a0_0:Bool) (l0_1:List Int):Option (Bool):=(nat_Len.f k l0_1).bind fun t143=>(some (decide (t143>65536)))
theorem ratio_number_long.calls (k:Nat) (a0_0:Bool) (A0_1:Option Addr) (c0_1:Nat) (l0_1:List Int) (r:Bool) (w:World) (hr0_1:Kd.C (Kd.int .u64) w A0_1 l0_1.length l0_1) (hc0_1:l0_1.length≤c0_1) (h:ratio_number_long.f k a0_0 l0_1=some r) :
  Calls Tryz.prog 72 #[.agg #[.bool a0_0,.slice A0_1 l0_1.length c0_1]] w fun e w'=>e=.returned (.bool r)∧Below w.heap.size w w':=by
 have hu26:=Tryz.underlying26
 have hu101:=Tryz.underlying101
 have K:=Kp.refl w
 replace K:=K.parV (Kd.V_mono (ok':=fun _=>True) (Kd.V_mk (e:=72) (base:=0) hc0_1 (Kd.C_F (Kd.heap_int .u64) hr0_1)) (fun _ h=>trivial))
 clear hr0_1 hc0_1
 try simp only[klv]at K
 rw[ratio_number_long.f]at h
 replace h:=bindA h
 obtain⟨n3,A4,h⟩:=h
 simp only[Option.some.injEq]at h
 subst h
 go_enter Tryz.func72,Tryz.ntmps72
 go_wp2_with (first|(refine gd 1 rfl ?_;refine kbk 1 #[.bool a0_0,.slice A0_1 l0_1.length c0_1] 101 K.u ?_;clear K;intro g1 W2 K;obtain⟨ua0,ub0⟩:=K.cell2 0 rfl)|(refine gd 6 rfl ?_;clear ua0 ub0;refine kgl (some 6) rfl rfl Tryz.func128 #[.slice A0_1 l0_1.length c0_1] rfl ?_;refine(nat_Len.calls _ _ _ l0_1 n3 _ (K.C 0 rfl) (K.le 0 rfl) A4.out).mono ?_;rintro e W5 ⟨rfl,hb⟩;refine⟨_,rfl,?_⟩;replace K:=K.u.up hb;clear hb))
 go_ret
 exact⟨rfl,K.u.below⟩
end Go.Proofs.YtikencoikigllaaGreatDoor.PRy
namespace Go.Proofs.YtikencoikigllaaGreatDoor.Mine
open Go Go.RowKit Go.Proofs.YtikencoikigllaaGreatDoorW.PrintWords Go.Proofs.YtikencoikigllaaGreatDoorW.PrintLast Go.Proofs.YtikencoikigllaaGreatDoorW.PrintMore
def setL (W:World) (g:Nat):Nat→List Value→World
 | _,[]=>W
 | o,x::xs=>setL (W.setCell ⟨g,o,none⟩ x) g (o+1) xs
def putL (cs:Array Value):Nat→List Value→Array Value
 | _,[]=>cs
 | o,x::xs=>putL (cs.setIfInBounds o x) (o+1) xs
def KV.top (v:KV):KV:=⟨v.kd,v.e,v.v,v.xs,fun _=>True⟩
namespace Kp
variable {w W W':World} {bs bs':List Bx} {vs vs' os os':List KV} {g:Nat} {t:TypeId}
theorem putN {o:Nat} {xs:List Value}:∀ {W:World} {cs:Array Value} {bs:List Bx},Kp w bs vs os W→∀(n:Nat),bs[n]? = some (g,cs,t)→Kp w (bs.set n (g,putL cs o xs,t)) vs os (setL W g o xs):=by
 induction xs generalizing o with
 | nil=>
  intro W cs bs K n hn
  have hlt:n<bs.length:=(List.getElem?_eq_some_iff.1 hn).1
  have:bs.set n (g,cs,t)=bs:=by
   refine List.ext_getElem? fun j=>?_
   rw[List.getElem?_set]
   by_cases hj:n=j
   ·subst hj;rw[if_pos rfl,if_pos hlt,hn]
   rw[if_neg hj]
  show Kp w (bs.set n (g,cs,t)) vs os W
  rw[this];exact K
 | cons x xs ih=>
  intro W cs bs K n hn
  have hlt:n<bs.length:=(List.getElem?_eq_some_iff.1 hn).1
  have K1:=K.put n hn o x rfl
  have K2:=ih (o:=o+1) K1 n (by rw[List.getElem?_set_self hlt])
  rw[List.set_set]at K2
  exact K2
theorem cells (K:Kp w bs vs os W) (n:Nat) {cs:Array Value} (hn:bs[n]? = some (g,cs,t)):∀i x,cs[i]? = some x→W.cell? ⟨g,i,none⟩=some x:=fun i _ hx=>K.cell n hn i hx
theorem names (_:Kp w bs vs os W):∃V O,Aside0 (V=vs)∧Aside0 (O=os):=⟨vs,os,⟨rfl⟩,⟨rfl⟩⟩
theorem front (K:Kp w bs vs os W) (n:Nat):Kp w (bs.take n) vs os W:=
 have hm:∀ {b:Bx},b∈bs.take n→b∈bs:=fun h=>List.mem_of_mem_take h
 ⟨K.below,fun b h=>K.blk b (hm h),K.nod.sublist ((List.take_sublist _ _).map _),fun v h=>Kd.V_mono (K.val v h) fun _ hk=>⟨hk.1,fun b hb=>hk.2 b (hm hb)⟩,fun v h=>Kd.R_mono (K.own v h) fun _ hk b hb=>hk b (hm hb),K.sep⟩
theorem carry (K:Kp w bs vs os W) (n:Nat) (is:List Nat):Kp w bs (vs.take n++is.filterMap fun i=>(vs[i]?).map KV.top) os W:=
 ⟨K.below,K.blk,K.nod,fun v hv=>by
  rcases List.mem_append.1 hv with hv|hv
  ·exact K.val v (List.mem_of_mem_take hv)
  obtain⟨i,_,hi⟩:=List.mem_filterMap.1 hv
  obtain⟨v0,h0,rfl⟩:=Option.map_eq_some_iff.1 hi
  exact Kd.V_mono (K.val v0 (List.mem_of_getElem? h0)) fun _ hk=>hk.t,K.own,K.sep⟩
theorem reV {V O l:List KV} (K:Kp w bs vs' os W) (hV:Aside0 (V=vs)) (hO:Aside0 (O=os)) (e:vs'=vs++l):Kp w bs (V++l) O W:=by
 rw[hV.out,hO.out,←e];exact K
end Kp
section
variable {P:Program} {ops:Array Oper} {Q:Exit→Act→World→Prop} {rest:List Oper} {o:Oper} {a:Act} {w W:World} {bs vs os} {g t:Nat} {cs:Array Value} {md:Region.Mode} {S:World→Prop} {ds:List Nat}
theorem kstN (n off:Nat) (xs:List Value) (K:Kp w bs vs os W) (hn:bs[n]? = some (g,cs,t))
  (hrun:(∀i x,cs[i]? = some x→W.cell? ⟨g,i,none⟩=some x)→(∀i,W.frozen? ⟨g,i,none⟩=false)→(execOp a.eval o).run P W=.ok .skip (setL W g off xs))
  (h:∀W1,Kp w (bs.set n (g,putL cs off xs,t)) vs os W1→wpList P ops Q rest a W1) (hd:o.dst=none:=by rfl) (hgd:o.guard=none:=by rfl):wpList P ops Q (o::rest) a W:=
 wpList_plain hgd fun K' hK=>by
  unfold Oper.wp
  rw[hrun (K.cells n hn) (K.fz n hn)]
  show K' (a.put o.dst undef) _
  rw[hd]
  exact hK _ _ (h _ (K.putN n hn))
theorem koneN {i:Nat} {oi:Oper} {fuel:Nat} {l:Array Bool} (l':Array Bool) (n off:Nat) (xs:List Value) (K:Kp w bs vs os W) (hn:bs[n]? = some (g,cs,t)) (hi:ops[i]? = some oi) (hN:oi.dst=none) (hc:readyB md ops l l' i=true) (hd:i∉ds) (hw:Region.wanted oi (yielded ops a.tmps)=true)
  (hrun:(∀i x,cs[i]? = some x→W.cell? ⟨g,i,none⟩=some x)→(∀i,W.frozen? ⟨g,i,none⟩=false)→(execOp a.eval oi).run P W=.ok .skip (setL W g off xs))
  (hS:∀W1,Kp w (bs.set n (g,putL cs off xs,t)) vs os W1→S W1) (h:∀W1,Kp w (bs.set n (g,putL cs off xs,t)) vs os W1→wpAnyLast P md ops Q S ds fuel l' a W1):wpAnyLast P md ops Q S ds (fuel+1) l a W:=by
 refine one_ l' hi hN hc hd fun K' hK=>skip_ hw hN (hrun (K.cells n hn) (K.fz n hn)) ?_
 exact hK.out _ _ (hS _ (K.putN n hn)) fun _=>h _ (K.putN n hn)
end
theorem normC {P:Program} {c:Code} {Q:Exit→Act→World→Prop} {a a':Act} {w:World} (ha:a=a') (h:c.wp P Q a' w):c.wp P Q a w:=by
 subst ha;exact h
theorem kpl:(∀(cs:Array Value) (o:Nat),putL cs o []=cs)∧(∀(cs:Array Value) (o:Nat) (x:Value) (xs:List Value),putL cs o (x::xs)=putL (cs.setIfInBounds o x) (o+1) xs):=⟨fun _ _=>rfl,fun _ _ _ _=>rfl⟩
end Go.Proofs.YtikencoikigllaaGreatDoor.Mine
namespace Go.Proofs.YtikencoikigllaaGreatDoor.PRy
open Go.RowKit Go.Proofs.YtikencoikigllaaGreatDoorW.PrintWords Go.Proofs.YtikencoikigllaaGreatDoorW.PrintLast Go.Proofs.YtikencoikigllaaGreatDoorW.PrintMore
open Go.Proofs.YtikencoikigllaaGreatDoor.Mine
attribute [local go_sem] max2_int min2_int max_two min_two max_three min_three max_four min_four
def ratio_made.f (k:Nat) (a0_0:Bool) (l0_1:List Int) (l0_2:List Int):Option (Bool×List Int×Bool×List Int×Int):=(nat_Len.f k l0_2).bind fun t146=>(if t146=0 then(some (false,([]:List Int),false,([]:List Int),11)) else((ratio_number_long.f k a0_0 l0_1).bind fun t148=>(if t148=true then(some (false,([]:List Int),false,([]:List Int),5)) else((ratio_number_long.f k false l0_2).bind fun t149=>(if t149=true then(some (false,([]:List Int),false,([]:List Int),5)) else(some (a0_0,l0_1,false,l0_2,0)))))))
theorem ratio_made.calls (k:Nat) (a0_0:Bool) (P0_1_:Nat→Prop) (A0_1:Option Addr) (c0_1:Nat) (l0_1:List Int) (P0_2_:Nat→Prop) (A0_2:Option Addr) (c0_2:Nat) (l0_2:List Int) (r1:Bool) (r2:List Int) (r3:Bool) (r4:List Int) (r5:Int) (w:World) (hs0_1:Kd.V (Kd.int .u64) 72 w w.heap.size (fun k_=>P0_1_ k_) (.slice A0_1 l0_1.length c0_1) l0_1) (hs0_2:Kd.V (Kd.int .u64) 72 w w.heap.size (fun k_=>P0_2_ k_) (.slice A0_2 l0_2.length c0_2) l0_2) (h:ratio_made.f k a0_0 l0_1 l0_2=some (r1,r2,r3,r4,r5)) :
  Calls Tryz.prog 62 #[.agg #[.bool a0_0,.slice A0_1 l0_1.length c0_1,.slice A0_2 l0_2.length c0_2]] w fun e w'=>∃v1_ v3_:Value,e=.returned (.tuple #[.agg #[.bool r1,v1_,.bool r3,v3_],.int .i64 r5])∧Kd.V (Kd.int .u64) 72 w' w.heap.size (fun k_=>((P0_1_ k_∨P0_2_ k_)∨w.heap.size≤k_)) v1_ r2∧Kd.V (Kd.int .u64) 72 w' w.heap.size (fun k_=>((P0_1_ k_∨P0_2_ k_)∨w.heap.size≤k_)) v3_ r4∧Below w.heap.size w w':=by
 have hu26:=Tryz.underlying26
 have hu39:=Tryz.underlying39
 have hu101:=Tryz.underlying101
 have hu103:=Tryz.underlying103
 have K:=Kp.refl w
 replace K:=K.parV (Kd.V_mono (ok':=fun k=>P0_1_ k) hs0_1 (fun _ h=>h))
 clear hs0_1
 replace K:=K.parV (Kd.V_mono (ok':=fun k=>P0_2_ k) hs0_2 (fun _ h=>h))
 clear hs0_2
 try simp only[klv]at K
 rw[ratio_made.f]at h
 replace h:=bindA h
 obtain⟨n5,A6,h⟩:=h
 by_cases c_0:n5=0
 ·rw[if_pos c_0]at h
  have c_0b0:(n5==0)=true:=beq_iff_eq.mpr c_0
  have c_0b1:(n5 != 0)=false:=bne_eq_false_iff_eq.mpr c_0
  clear c_0
  simp only[Option.some.injEq,Prod.mk.injEq]at h
  obtain⟨rfl,rfl,rfl,rfl,rfl⟩:=h
  go_enter Tryz.func62,Tryz.ntmps62
  go_wp2_with (first|(refine gd 1 rfl ?_;refine kbk 1 #[.bool a0_0,.slice A0_1 l0_1.length c0_1,.slice A0_2 l0_2.length c0_2] 39 K.u ?_;clear K;intro g1 W2 K)|(refine gd 2 rfl ?_;refine kbk 2 #[.bool false,.slice none 0 0,.bool false,.slice none 0 0] 103 K.u ?_;clear K;intro g3 W4 K;have ua0:=K.cell 0 rfl 0 rfl;have ub0:=K.cell 0 rfl 1 rfl;have uc0:=K.cell 0 rfl 2 rfl)|(refine gd 7 rfl ?_;clear ua0 ub0 uc0;refine kgl (some 7) rfl rfl Tryz.func128 #[.slice A0_2 l0_2.length c0_2] rfl ?_;refine(nat_Len.calls _ _ _ l0_2 n5 _ (K.C 1 rfl) (K.le 1 rfl) A6.out).mono ?_;rintro e W7 ⟨rfl,hb⟩;refine⟨_,rfl,?_⟩;replace K:=K.u.up hb;clear hb)|(refine gs 103 2 9 rfl ?_;refine kstN 1 0 [.bool false,.slice none 0 0,.bool false,.slice none 0 0] K.u rfl ?q9 ?_;(case q9=>intro hc hf;have c0:=hc 0 _ rfl;have f0:=hf 0;have c1:=hc 1 _ rfl;have f1:=hf 1;have c2:=hc 2 _ rfl;have f2:=hf 2;have c3:=hc 3 _ rfl;have f3:=hf 3;clear hc hf;first|(go_simp;done)|(go_simp;rfl));clear K;intro W8 K;simp only[kls,klv,kpl,kss]at K))
  refine bodyPost_ret (results_list (rs:=[.cell 2 103,.tmp 3]) rfl (by simp) (.cell g3 103 #[.bool false,.slice none 0 0,.bool false,.slice none 0 0] (0,0) _ rfl (K.u.heap 1 rfl) Tryz.underlying103 rfl (by kernel_rfl) (.tmp .nil))) rfl ?_
  exact⟨_,_,rfl,Kd.V_nil _ _ _ _ _,Kd.V_nil _ _ _ _ _,K.u.below⟩
 rw[if_neg c_0]at h
 have c_0b0:(n5==0)=false:=beq_eq_false_iff_ne.mpr c_0
 have c_0b1:(n5 != 0)=true:=bne_iff_ne.mpr c_0
 clear c_0
 replace h:=bindA h
 obtain⟨z12,A13,h⟩:=h
 by_cases c_1:z12=true
 ·subst c_1
  rw[if_pos rfl]at h
  simp only[Option.some.injEq,Prod.mk.injEq]at h
  obtain⟨rfl,rfl,rfl,rfl,rfl⟩:=h
  go_enter Tryz.func62,Tryz.ntmps62
  go_wp2_with (first|(refine gd 1 rfl ?_;refine kbk 1 #[.bool a0_0,.slice A0_1 l0_1.length c0_1,.slice A0_2 l0_2.length c0_2] 39 K.u ?_;clear K;intro g1 W2 K)|(refine gd 2 rfl ?_;refine kbk 2 #[.bool false,.slice none 0 0,.bool false,.slice none 0 0] 103 K.u ?_;clear K;intro g3 W4 K;have ua0:=K.cell 0 rfl 0 rfl;have ub0:=K.cell 0 rfl 1 rfl;have uc0:=K.cell 0 rfl 2 rfl)|(refine gd 7 rfl ?_;clear ua0 ub0 uc0;refine kgl (some 7) rfl rfl Tryz.func128 #[.slice A0_2 l0_2.length c0_2] rfl ?_;refine(nat_Len.calls _ _ _ l0_2 n5 _ (K.C 1 rfl) (K.le 1 rfl) A6.out).mono ?_;rintro e W7 ⟨rfl,hb⟩;refine⟨_,rfl,?_⟩;replace K:=K.u.up hb;clear hb;have ua0:=K.cell 0 rfl 0 rfl;have ub0:=K.cell 0 rfl 1 rfl;have uc0:=K.cell 0 rfl 2 rfl)|(refine gd 4 rfl ?_;clear ua0 ub0 uc0;refine kbk 4 #[.bool false,.slice none 0 0,.bool false,.slice none 0 0] 103 K.u ?_;clear K;intro g8 W9 K)|(refine gs 103 4 17 rfl ?_;refine kstN 2 0 [.bool a0_0,.slice A0_1 l0_1.length c0_1,.bool false,.slice A0_2 l0_2.length c0_2] K.u rfl ?q11 ?_;(case q11=>intro hc hf;have c0:=hc 0 _ rfl;have f0:=hf 0;have c1:=hc 1 _ rfl;have f1:=hf 1;have c2:=hc 2 _ rfl;have f2:=hf 2;have c3:=hc 3 _ rfl;have f3:=hf 3;clear hc hf;first|(go_simp;done)|(go_simp;rfl));clear K;intro W10 K;simp only[kls,klv,kpl,kss]at K;have ua2:=K.cell 2 rfl 0 rfl;have ub2:=K.cell 2 rfl 1 rfl;have uc2:=K.cell 2 rfl 2 rfl;have ud2:=K.cell 2 rfl 3 rfl)|(refine gd 20 rfl ?_;clear ua2 ub2 uc2 ud2;refine kgl (some 20) rfl rfl Tryz.func72 #[.agg #[.bool a0_0,.slice A0_1 l0_1.length c0_1]] rfl ?_;refine(ratio_number_long.calls _ a0_0 _ _ l0_1 true _ (K.C 0 rfl) (K.le 0 rfl) A13.out).mono ?_;rintro e W14 ⟨rfl,hb⟩;refine⟨_,rfl,?_⟩;replace K:=K.u.up hb;clear hb)|(refine gs 103 2 26 rfl ?_;refine kstN 1 0 [.bool false,.slice none 0 0,.bool false,.slice none 0 0] K.u rfl ?q16 ?_;(case q16=>intro hc hf;have c0:=hc 0 _ rfl;have f0:=hf 0;have c1:=hc 1 _ rfl;have f1:=hf 1;have c2:=hc 2 _ rfl;have f2:=hf 2;have c3:=hc 3 _ rfl;have f3:=hf 3;clear hc hf;first|(go_simp;done)|(go_simp;rfl));clear K;intro W15 K;simp only[kls,klv,kpl,kss]at K))
  refine bodyPost_ret (results_list (rs:=[.cell 2 103,.tmp 3]) rfl (by simp) (.cell g3 103 #[.bool false,.slice none 0 0,.bool false,.slice none 0 0] (0,0) _ rfl (K.u.heap 1 rfl) Tryz.underlying103 rfl (by kernel_rfl) (.tmp .nil))) rfl ?_
  exact⟨_,_,rfl,Kd.V_nil _ _ _ _ _,Kd.V_nil _ _ _ _ _,K.u.below⟩
 replace c_1:=Bool.eq_false_iff.mpr c_1
 subst c_1
 rw[if_neg (by decide)]at h
 replace h:=bindA h
 obtain⟨z15,A16,h⟩:=h
 by_cases c_2:z15=true
 ·subst c_2
  rw[if_pos rfl]at h
  simp only[Option.some.injEq,Prod.mk.injEq]at h
  obtain⟨rfl,rfl,rfl,rfl,rfl⟩:=h
  go_enter Tryz.func62,Tryz.ntmps62
  go_wp2_with (first|(refine gd 1 rfl ?_;refine kbk 1 #[.bool a0_0,.slice A0_1 l0_1.length c0_1,.slice A0_2 l0_2.length c0_2] 39 K.u ?_;clear K;intro g1 W2 K)|(refine gd 2 rfl ?_;refine kbk 2 #[.bool false,.slice none 0 0,.bool false,.slice none 0 0] 103 K.u ?_;clear K;intro g3 W4 K;have ua0:=K.cell 0 rfl 0 rfl;have ub0:=K.cell 0 rfl 1 rfl;have uc0:=K.cell 0 rfl 2 rfl)|(refine gd 7 rfl ?_;clear ua0 ub0 uc0;refine kgl (some 7) rfl rfl Tryz.func128 #[.slice A0_2 l0_2.length c0_2] rfl ?_;refine(nat_Len.calls _ _ _ l0_2 n5 _ (K.C 1 rfl) (K.le 1 rfl) A6.out).mono ?_;rintro e W7 ⟨rfl,hb⟩;refine⟨_,rfl,?_⟩;replace K:=K.u.up hb;clear hb;have ua0:=K.cell 0 rfl 0 rfl;have ub0:=K.cell 0 rfl 1 rfl;have uc0:=K.cell 0 rfl 2 rfl)|(refine gd 4 rfl ?_;clear ua0 ub0 uc0;refine kbk 4 #[.bool false,.slice none 0 0,.bool false,.slice none 0 0] 103 K.u ?_;clear K;intro g8 W9 K)|(refine gs 103 4 17 rfl ?_;refine kstN 2 0 [.bool a0_0,.slice A0_1 l0_1.length c0_1,.bool false,.slice A0_2 l0_2.length c0_2] K.u rfl ?q11 ?_;(case q11=>intro hc hf;have c0:=hc 0 _ rfl;have f0:=hf 0;have c1:=hc 1 _ rfl;have f1:=hf 1;have c2:=hc 2 _ rfl;have f2:=hf 2;have c3:=hc 3 _ rfl;have f3:=hf 3;clear hc hf;first|(go_simp;done)|(go_simp;rfl));clear K;intro W10 K;simp only[kls,klv,kpl,kss]at K;have ua2:=K.cell 2 rfl 0 rfl;have ub2:=K.cell 2 rfl 1 rfl;have uc2:=K.cell 2 rfl 2 rfl;have ud2:=K.cell 2 rfl 3 rfl)|(refine gd 20 rfl ?_;clear ua2 ub2 uc2 ud2;refine kgl (some 20) rfl rfl Tryz.func72 #[.agg #[.bool a0_0,.slice A0_1 l0_1.length c0_1]] rfl ?_;refine(ratio_number_long.calls _ a0_0 _ _ l0_1 false _ (K.C 0 rfl) (K.le 0 rfl) A13.out).mono ?_;rintro e W14 ⟨rfl,hb⟩;refine⟨_,rfl,?_⟩;replace K:=K.u.up hb;clear hb;have ua2:=K.cell 2 rfl 0 rfl;have ub2:=K.cell 2 rfl 1 rfl;have uc2:=K.cell 2 rfl 2 rfl;have ud2:=K.cell 2 rfl 3 rfl)|(refine gd 24 rfl ?_;clear ua2 ub2 uc2 ud2;refine gate_guard (by rfl) ?_;refine kgl (some 24) rfl rfl Tryz.func72 #[.agg #[.bool false,.slice A0_2 l0_2.length c0_2]] rfl ?_;refine(ratio_number_long.calls _ false _ _ l0_2 true _ (K.C 1 rfl) (K.le 1 rfl) A16.out).mono ?_;rintro e W17 ⟨rfl,hb⟩;refine⟨_,rfl,?_⟩;replace K:=K.u.up hb;clear hb)|(refine gs 103 2 26 rfl ?_;refine kstN 1 0 [.bool false,.slice none 0 0,.bool false,.slice none 0 0] K.u rfl ?q19 ?_;(case q19=>intro hc hf;have c0:=hc 0 _ rfl;have f0:=hf 0;have c1:=hc 1 _ rfl;have f1:=hf 1;have c2:=hc 2 _ rfl;have f2:=hf 2;have c3:=hc 3 _ rfl;have f3:=hf 3;clear hc hf;first|(go_simp;done)|(go_simp;rfl));clear K;intro W18 K;simp only[kls,klv,kpl,kss]at K))
  refine bodyPost_ret (results_list (rs:=[.cell 2 103,.tmp 3]) rfl (by simp) (.cell g3 103 #[.bool false,.slice none 0 0,.bool false,.slice none 0 0] (0,0) _ rfl (K.u.heap 1 rfl) Tryz.underlying103 rfl (by kernel_rfl) (.tmp .nil))) rfl ?_
  exact⟨_,_,rfl,Kd.V_nil _ _ _ _ _,Kd.V_nil _ _ _ _ _,K.u.below⟩
 replace c_2:=Bool.eq_false_iff.mpr c_2
 subst c_2
 rw[if_neg (by decide)]at h
 simp only[Option.some.injEq,Prod.mk.injEq]at h
 obtain⟨rfl,rfl,rfl,rfl,rfl⟩:=h
 go_enter Tryz.func62,Tryz.ntmps62
 go_wp2_with (first|(refine gd 1 rfl ?_;refine kbk 1 #[.bool a0_0,.slice A0_1 l0_1.length c0_1,.slice A0_2 l0_2.length c0_2] 39 K.u ?_;clear K;intro g1 W2 K)|(refine gd 2 rfl ?_;refine kbk 2 #[.bool false,.slice none 0 0,.bool false,.slice none 0 0] 103 K.u ?_;clear K;intro g3 W4 K;have ua0:=K.cell 0 rfl 0 rfl;have ub0:=K.cell 0 rfl 1 rfl;have uc0:=K.cell 0 rfl 2 rfl)|(refine gd 7 rfl ?_;clear ua0 ub0 uc0;refine kgl (some 7) rfl rfl Tryz.func128 #[.slice A0_2 l0_2.length c0_2] rfl ?_;refine(nat_Len.calls _ _ _ l0_2 n5 _ (K.C 1 rfl) (K.le 1 rfl) A6.out).mono ?_;rintro e W7 ⟨rfl,hb⟩;refine⟨_,rfl,?_⟩;replace K:=K.u.up hb;clear hb;have ua0:=K.cell 0 rfl 0 rfl;have ub0:=K.cell 0 rfl 1 rfl;have uc0:=K.cell 0 rfl 2 rfl)|(refine gd 4 rfl ?_;clear ua0 ub0 uc0;refine kbk 4 #[.bool false,.slice none 0 0,.bool false,.slice none 0 0] 103 K.u ?_;clear K;intro g8 W9 K)|(refine gs 103 4 17 rfl ?_;refine kstN 2 0 [.bool a0_0,.slice A0_1 l0_1.length c0_1,.bool false,.slice A0_2 l0_2.length c0_2] K.u rfl ?q11 ?_;(case q11=>intro hc hf;have c0:=hc 0 _ rfl;have f0:=hf 0;have c1:=hc 1 _ rfl;have f1:=hf 1;have c2:=hc 2 _ rfl;have f2:=hf 2;have c3:=hc 3 _ rfl;have f3:=hf 3;clear hc hf;first|(go_simp;done)|(go_simp;rfl));clear K;intro W10 K;simp only[kls,klv,kpl,kss]at K;have ua2:=K.cell 2 rfl 0 rfl;have ub2:=K.cell 2 rfl 1 rfl;have uc2:=K.cell 2 rfl 2 rfl;have ud2:=K.cell 2 rfl 3 rfl)|(refine gd 20 rfl ?_;clear ua2 ub2 uc2 ud2;refine kgl (some 20) rfl rfl Tryz.func72 #[.agg #[.bool a0_0,.slice A0_1 l0_1.length c0_1]] rfl ?_;refine(ratio_number_long.calls _ a0_0 _ _ l0_1 false _ (K.C 0 rfl) (K.le 0 rfl) A13.out).mono ?_;rintro e W14 ⟨rfl,hb⟩;refine⟨_,rfl,?_⟩;replace K:=K.u.up hb;clear hb;have ua2:=K.cell 2 rfl 0 rfl;have ub2:=K.cell 2 rfl 1 rfl;have uc2:=K.cell 2 rfl 2 rfl;have ud2:=K.cell 2 rfl 3 rfl)|(refine gd 24 rfl ?_;clear ua2 ub2 uc2 ud2;refine gate_guard (by rfl) ?_;refine kgl (some 24) rfl rfl Tryz.func72 #[.agg #[.bool false,.slice A0_2 l0_2.length c0_2]] rfl ?_;refine(ratio_number_long.calls _ false _ _ l0_2 false _ (K.C 1 rfl) (K.le 1 rfl) A16.out).mono ?_;rintro e W17 ⟨rfl,hb⟩;refine⟨_,rfl,?_⟩;replace K:=K.u.up hb;clear hb;have ua2:=K.cell 2 rfl 0 rfl;have ub2:=K.cell 2 rfl 1 rfl;have uc2:=K.cell 2 rfl 2 rfl;have ud2:=K.cell 2 rfl 3 rfl)|(refine gs 103 2 27 rfl ?_;clear ua2 ub2 uc2 ud2;refine kstN 1 0 [.bool a0_0,.slice A0_1 l0_1.length c0_1,.bool false,.slice A0_2 l0_2.length c0_2] K.u rfl ?q19 ?_;(case q19=>intro hc hf;have c0:=hc 0 _ rfl;have f0:=hf 0;have c1:=hc 1 _ rfl;have f1:=hf 1;have c2:=hc 2 _ rfl;have f2:=hf 2;have c3:=hc 3 _ rfl;have f3:=hf 3;clear hc hf;first|(go_simp;done)|(go_simp;rfl));clear K;intro W18 K;simp only[kls,klv,kpl,kss]at K))
 refine bodyPost_ret (results_list (rs:=[.cell 2 103,.tmp 3]) rfl (by simp) (.cell g3 103 #[.bool a0_0,.slice A0_1 l0_1.length c0_1,.bool false,.slice A0_2 l0_2.length c0_2] (0,0) _ rfl (K.u.heap 1 rfl) Tryz.underlying103 rfl (by kernel_rfl) (.tmp .nil))) rfl ?_
 exact⟨_,_,rfl,K.u.hand 0 rfl (fun k_ h=>h.elim (fun h=>.inl (.inl h)) .inr),K.u.hand 1 rfl (fun k_ h=>h.elim (fun h=>.inl (.inr h)) .inr),K.u.below⟩
def whole_number_long.f (l0_0:List Int) (a0_1:Bool):Option (Bool):=some (decide ((l0_0.length:Int)>4096))
theorem whole_number_long.calls (A0_0:Option Addr) (c0_0:Nat) (l0_0:List Int) (a0_1:Bool) (r:Bool) (w:World) (hr0_0:Kd.C (Kd.int .u64) w A0_0 l0_0.length l0_0) (hc0_0:l0_0.length≤c0_0) (h:whole_number_long.f l0_0 a0_1=some r) :
  Calls Tryz.prog 53 #[.agg #[.slice A0_0 l0_0.length c0_0,.bool a0_1]] w fun e w'=>e=.returned (.bool r)∧Below w.heap.size w w':=by
 have hu80:=Tryz.underlying80
 have K:=Kp.refl w
 replace K:=K.parV (Kd.V_mono (ok':=fun _=>True) (Kd.V_mk (e:=72) (base:=0) hc0_0 (Kd.C_F (Kd.heap_int .u64) hr0_0)) (fun _ h=>trivial))
 clear hr0_0 hc0_0
 try simp only[klv]at K
 rw[whole_number_long.f]at h
 simp only[Option.some.injEq]at h
 subst h
 go_enter Tryz.func53,Tryz.ntmps53
 go_wp2_with (first|(refine gd 1 rfl ?_;refine kbk 1 #[.slice A0_0 l0_0.length c0_0,.bool a0_1] 80 K.u ?_;clear K;intro g1 W2 K;obtain⟨ua0,ub0⟩:=K.cell2 0 rfl))
 go_ret
 exact⟨rfl,K.u.below⟩
def whole_number_out.f (l0_0:List Int) (a0_1:Bool):Option (Bool×List Int):=(api_Nat_uint64.f l0_0).bind fun t153=>(some (a0_1,t153))
theorem whole_number_out.calls (A0_0:Option Addr) (c0_0:Nat) (l0_0:List Int) (a0_1:Bool) (r1:Bool) (r2:List Int) (w:World) (hr0_0:Kd.C (Kd.int .u64) w A0_0 l0_0.length l0_0) (hc0_0:l0_0.length≤c0_0) (h:whole_number_out.f l0_0 a0_1=some (r1,r2)) :
  Calls Tryz.prog 60 #[.agg #[.slice A0_0 l0_0.length c0_0,.bool a0_1]] w fun e w'=>∃v1_:Value,e=.returned (.agg #[.bool r1,v1_])∧Kd.R (Kd.int .u64) 72 w' w.heap.size (fun _=>True) v1_ r2∧Below w.heap.size w w':=by
 have hu80:=Tryz.underlying80
 have hu26:=Tryz.underlying26
 have HR0_0:=Aside0.mk hr0_0
 have HC0_0:=Aside0.mk hc0_0
 clear hr0_0 hc0_0
 have HB:=Aside0.mk (Below.refl w.heap.size w)
 have H:((api_Nat_uint64.f l0_0).bind fun t153=>(some (a0_1,t153)))=some (r1,r2):=h
 clear h
 replace H:=Option.bind_eq_some_iff.mp H
 obtain⟨t153,A20,H⟩:=H
 replace H:(some (a0_1,t153))=some (r1,r2):=H
 have A2:=Aside0.mk A20
 clear A20
 simp only[Option.some.injEq,Prod.mk.injEq]at H
 obtain⟨rfl,rfl⟩:=H
 go_enter Tryz.func60,Tryz.ntmps60
 try go_wp2_with (first|(refine gd 1 rfl ?_;refine kbe 1 #[.slice A0_0 l0_0.length c0_0,.bool a0_1] 80 ?_;intro gb151 hg w3 hbox hb;have BK151:=Aside0.mk (hbox);have GW151:=kbz hg HB;have GE151:=kbz hg HB;replace HB:=kbs HB hb;clear hb hbox hg)|(refine gd 2 rfl ?_;refine kbe 2 #[.bool false,.slice none 0 0] 26 ?_;intro gb152 hg w4 hbox hb;have BK152:=Aside0.mk (hbox);have GW152:=kbz hg HB;have GE152:=kbz hg HB;replace HB:=kbs HB hb;have NB151_152:=knl hg BK151;have NB152_151:=kng hg BK151;replace BK151:=kbb BK151 hb;clear hb hbox hg))
 replace BK151:=Aside0.mk (blk_drew BK151.out);replace BK152:=Aside0.mk (blk_drew BK152.out);replace HB:=Aside0.mk (below_drew1 HB.out)
 refine start_ (n:=7) (S:=fun w'=>w'.cell? ⟨gb151,0,none⟩=some (.slice A0_0 l0_0.length c0_0)∧w'.cell? ⟨gb151,1,none⟩=some (.bool a0_1)) (ds:=[]) (bm_ 7 0) (by kernel_rfl) rfl rfl ⟨(blk_cell BK151.out 0).trans rfl,(blk_cell BK151.out 1).trans rfl⟩ (fun hHeld=>?_)
 generalize w4.drew=w5 at BK151 BK152 HB hHeld ⊢
 refine pu_ 0 3 ?_ (bm_ 7 1) rfl rfl (by kernel_rfl) (fun _ _ _ h=>h) (by rfl) ?_ ?_ ?_ ?_
 rotate_left
 ·intro w'
  go_simp
  with_reducible rfl
 rotate_left
 ·simp only[Act.put,kss,i64_w,i32_w]
  rfl
 refine pu_ 2 5 ?_ (bm_ 7 5) rfl rfl (by kernel_rfl) (fun _ _ _ h=>h) (by rfl) ?_ ?_ ?_ ?_
 rotate_left
 ·intro w'
  go_simp
  with_reducible rfl
 rotate_left
 ·simp only[Act.put,kss,i64_w,i32_w]
  rfl
 refine tk_ 1 4 ?_ (bm_ 7 7) rfl rfl (by kernel_rfl) (fun _ _ _ h=>h) (by rfl) ?_ hHeld ?_ ?_ ?_
 rotate_left
 ·rintro w' ⟨s0,s1⟩
  go_simp
  with_reducible rfl
 rotate_left
 ·simp only[Act.put,kss,i64_w,i32_w]
  rfl
 refine tk_ 3 6 ?_ (bm_ 7 15) rfl rfl (by kernel_rfl) (fun _ _ _ h=>h) (by rfl) ?_ hHeld ?_ ?_ ?_
 rotate_left
 ·rintro w' ⟨s0,s1⟩
  go_simp
  with_reducible rfl
 rotate_left
 ·simp only[Act.put,kss,i64_w,i32_w]
  rfl
 refine one_ (i:=4) (N:=some 7) (bm_ 7 31) rfl rfl (by kernel_rfl) (by decide) (fun K hK=>?_)
 refine kgo Tryz.func126 #[.slice A0_0 l0_0.length c0_0] (by rfl) rfl rfl ?_
 with_reducible refine(api_Nat_uint64.calls _ _ l0_0 t153 _ ?side1 ?side2 A2.out).mono ?_
 (case side1=>repeat (first|exact(Kd.C_below HR0_0.out HB.out)|(with_reducible refine Kd.C_alloc ?_ _)|(with_reducible refine Kd.C_drewN ?_ _)|(with_reducible refine Kd.C_drew ?_)))
 (case side2=>exact HC0_0.out)
 rintro e w6 ⟨v154,rfl,ho0,hb⟩
 refine⟨_,rfl,?_⟩
 have HO155:=Aside0.mk (Kd.R_lower ho0 (below_size (khu HB.out)));replace BK151:=kbb BK151 hb;replace BK152:=kbb BK152 hb;replace HB:=kbs HB hb
 (try clear hb);(try clear hb2);(try clear hk);(try clear hi);(try clear ho0)
 obtain⟨Ao7,co7,eo7⟩:=Kd.R_slice HO155.out
 (first|subst eo7|(injection eo7 with f1_ f2_ f3_;have f4_:=f1_.symm;have f5_:=f3_.symm;clear f1_ f2_ f3_;subst f4_;subst f5_))
 refine hK.out _ _ ⟨(blk_cell BK151.out 0).trans rfl,(blk_cell BK151.out 1).trans rfl⟩ (fun hHeld=>?_)
 clear hK K
 refine norm_ (a':=?_) ?_ ?_
 rotate_left
 ·show Act.put _ (some 7) _=_
  simp only[Act.put,kss,i64_w,i32_w]
  rfl
 refine pu_ 5 8 ?_ (bm_ 7 63) rfl rfl (by kernel_rfl) (fun _ _ _ h=>h) (by rfl) ?_ ?_ ?_ ?_
 rotate_left
 ·intro w'
  go_simp
  with_reducible rfl
 rotate_left
 ·simp only[Act.put,kss,i64_w,i32_w]
  rfl
 refine one_ (i:=6) (N:=none) (bm_ 7 127) rfl rfl (by kernel_rfl) (by decide) (fun K hK=>?_)
 have hs8:w6.cell? ⟨gb152,0,none⟩=some (.bool false):=(blk_cell BK152.out 0).trans rfl
 have hfs8:=blk_frozen BK152.out 0
 have hns8_0:=NB151_152.out
 have hms8_0:=NB152_151.out
 have hs9:w6.cell? ⟨gb152,1,none⟩=some (.slice none 0 0):=(blk_cell BK152.out 1).trans rfl
 have hfs9:=blk_frozen BK152.out 1
 have hns9_0:=NB151_152.out
 have hms9_0:=NB152_151.out
 refine skip_ (w1:=?_) (by rfl) rfl ?_ ?_
 rotate_left
 ·go_simp
  rfl
 refine hK.out _ _ ⟨((cell_far (p:=⟨gb152,_,none⟩) NB151_152.out _).trans (((cell_far (p:=⟨gb152,_,none⟩) NB151_152.out _).trans (hHeld.1)))),((cell_far (p:=⟨gb152,_,none⟩) NB151_152.out _).trans (((cell_far (p:=⟨gb152,_,none⟩) NB151_152.out _).trans (hHeld.2))))⟩ (fun hHeld=>?_)
 clear hK K
 refine done_ (by kernel_rfl) ?_
 try go_wp2
 refine bodyPost_ret (results_cell_row rfl _ _ gb152 26 #[.bool a0_1,.slice Ao7 t153.length co7] (0,0) _ rfl (kpu #[.bool a0_1,.slice none 0 0] 1 (kpu #[.bool false,.slice none 0 0] 0 (kbu BK152.out))) Tryz.underlying26 rfl (by kernel_rfl)) rfl ?_
 exact⟨_,by first|rfl|(simp[*,errW_none,errW_some]<;>rfl),by(with_reducible repeat (first|apply Kd.R_alloc|apply Kd.R_drewN|apply Kd.R_drew));exact Kd.R_mono (Kd.R_far (p:=⟨gb152,1,none⟩) (Kd.R_far (p:=⟨gb152,0,none⟩) (Kd.R_types HO155.out BK152.out (by decide)) (fun _ hk=>hk.2) (.bool a0_1)) (fun _ hk=>hk.2) (.slice Ao7 t153.length co7)) (fun _ hk=>trivial),by repeat (first|(with_reducible first|exact HB.out|apply below_alloc|apply pw_below_drewN|apply below_drew1|refine below_set ?_ GE151.out|refine below_set ?_ GE152.out)|exact HB.out)⟩
def whole_number_told.f (l0_0:List Int) (a0_1:Bool):Option (Bool×List Int×Int):=(whole_number_long.f l0_0 a0_1).bind fun t158=>(if t158=true then(some (false,([]:List Int),5)) else((whole_number_out.f l0_0 a0_1).bind fun bt159=>(some (bt159.1,bt159.2,0))))
theorem whole_number_told.calls (A0_0:Option Addr) (c0_0:Nat) (l0_0:List Int) (a0_1:Bool) (r1:Bool) (r2:List Int) (r3:Int) (w:World) (hr0_0:Kd.C (Kd.int .u64) w A0_0 l0_0.length l0_0) (hc0_0:l0_0.length≤c0_0) (h:whole_number_told.f l0_0 a0_1=some (r1,r2,r3)) :
  Calls Tryz.prog 48 #[.agg #[.slice A0_0 l0_0.length c0_0,.bool a0_1]] w fun e w'=>∃v1_:Value,e=.returned (.tuple #[.agg #[.bool r1,v1_],.int .i64 r3])∧Kd.R (Kd.int .u64) 72 w' w.heap.size (fun _=>True) v1_ r2∧Below w.heap.size w w':=by
 have hu26:=Tryz.underlying26
 have hu80:=Tryz.underlying80
 have K:=Kp.refl w
 replace K:=K.parV (Kd.V_mono (ok':=fun _=>True) (Kd.V_mk (e:=72) (base:=0) hc0_0 (Kd.C_F (Kd.heap_int .u64) hr0_0)) (fun _ h=>trivial))
 clear hr0_0 hc0_0
 try simp only[klv]at K
 rw[whole_number_told.f]at h
 replace h:=bindA h
 obtain⟨z5,A6,h⟩:=h
 by_cases c_0:z5=true
 ·subst c_0
  rw[if_pos rfl]at h
  simp only[Option.some.injEq,Prod.mk.injEq]at h
  obtain⟨rfl,rfl,rfl⟩:=h
  go_enter Tryz.func48,Tryz.ntmps48
  go_wp2_with (first|(refine gd 1 rfl ?_;refine kbk 1 #[.slice A0_0 l0_0.length c0_0,.bool a0_1] 80 K.u ?_;clear K;intro g1 W2 K)|(refine gd 2 rfl ?_;refine kbk 2 #[.bool false,.slice none 0 0] 26 K.u ?_;clear K;intro g3 W4 K;obtain⟨ua0,ub0⟩:=K.cell2 0 rfl)|(refine gd 5 rfl ?_;clear ua0 ub0;refine kgl (some 5) rfl rfl Tryz.func53 #[.agg #[.slice A0_0 l0_0.length c0_0,.bool a0_1]] rfl ?_;refine(whole_number_long.calls _ _ l0_0 a0_1 true _ (K.C 0 rfl) (K.le 0 rfl) A6.out).mono ?_;rintro e W7 ⟨rfl,hb⟩;refine⟨_,rfl,?_⟩;replace K:=K.u.up hb;clear hb)|(refine gs 26 2 6 rfl ?_;refine ks2 1 (.bool false) (.slice none 0 0) K.u rfl ?_;clear K;intro W8 K;simp only[kls,klv]at K))
  refine bodyPost_ret (results_list (rs:=[.cell 2 26,.tmp 3]) rfl (by simp) (.cell g3 26 #[.bool false,.slice none 0 0] (0,0) _ rfl (K.u.heap 1 rfl) Tryz.underlying26 rfl (by kernel_rfl) (.tmp .nil))) rfl ?_
  exact⟨_,rfl,Kd.R_nil _ _ _ _ _,K.u.below⟩
 replace c_0:=Bool.eq_false_iff.mpr c_0
 subst c_0
 rw[if_neg (by decide)]at h
 replace h:=bindA h
 obtain⟨⟨z8,x9⟩,A10,h⟩:=h
 dsimp only at h
 simp only[Option.some.injEq,Prod.mk.injEq]at h
 obtain⟨rfl,rfl,rfl⟩:=h
 go_enter Tryz.func48,Tryz.ntmps48
 go_wp2_with (first|(refine gd 1 rfl ?_;refine kbk 1 #[.slice A0_0 l0_0.length c0_0,.bool a0_1] 80 K.u ?_;clear K;intro g1 W2 K)|(refine gd 2 rfl ?_;refine kbk 2 #[.bool false,.slice none 0 0] 26 K.u ?_;clear K;intro g3 W4 K;obtain⟨ua0,ub0⟩:=K.cell2 0 rfl)|(refine gd 5 rfl ?_;clear ua0 ub0;refine kgl (some 5) rfl rfl Tryz.func53 #[.agg #[.slice A0_0 l0_0.length c0_0,.bool a0_1]] rfl ?_;refine(whole_number_long.calls _ _ l0_0 a0_1 false _ (K.C 0 rfl) (K.le 0 rfl) A6.out).mono ?_;rintro e W7 ⟨rfl,hb⟩;refine⟨_,rfl,?_⟩;replace K:=K.u.up hb;clear hb;obtain⟨ua0,ub0⟩:=K.cell2 0 rfl)|(refine gd 8 rfl ?_;clear ua0 ub0;refine kgl (some 8) rfl rfl Tryz.func60 #[.agg #[.slice A0_0 l0_0.length c0_0,.bool a0_1]] rfl ?_;refine(whole_number_out.calls _ _ l0_0 a0_1 z8 x9 _ (K.C 0 rfl) (K.le 0 rfl) A10.out).mono ?_;rintro e W13 ⟨v11,rfl,ho12,hb⟩;refine⟨_,rfl,?_⟩;replace K:=K.u.addRE hb ho12;clear hb ho12;obtain⟨P14,c15,e16⟩:=K.slice 1 rfl;subst e16)|(refine gs 26 2 8 rfl ?_;refine ks2 1 (.bool z8) (.slice P14 x9.length c15) K.u rfl ?_;clear K;intro W17 K;simp only[kls,klv]at K))
 refine bodyPost_ret (results_list (rs:=[.cell 2 26,.tmp 3]) rfl (by simp) (.cell g3 26 #[.bool z8,.slice P14 x9.length c15] (0,0) _ rfl (K.u.heap 1 rfl) Tryz.underlying26 rfl (by kernel_rfl) (.tmp .nil))) rfl ?_
 exact⟨_,rfl,K.u.R 0 rfl,K.u.below⟩
def whole_signed.f (l0:List Int) (a1:Bool):Option (List Int×Bool):=if a1=true then((whole_amount_null.f l0).bind fun t164=>(some (l0,!t164))) else(some (l0,false))
theorem whole_signed.calls (P0_:Nat→Prop) (A0:Option Addr) (c0:Nat) (l0:List Int) (a1:Bool) (r1:List Int) (r2:Bool) (w:World) (hs0:Kd.V (Kd.int .u64) 72 w w.heap.size (fun k_=>P0_ k_) (.slice A0 l0.length c0) l0) (h:whole_signed.f l0 a1=some (r1,r2)) :
  Calls Tryz.prog 47 #[.slice A0 l0.length c0,.bool a1] w fun e w'=>∃v0_:Value,e=.returned (.agg #[v0_,.bool r2])∧Kd.V (Kd.int .u64) 72 w' w.heap.size (fun k_=>(P0_ k_∨w.heap.size≤k_)) v0_ r1∧Below w.heap.size w w':=by
 have hu80:=Tryz.underlying80
 have K:=Kp.refl w
 replace K:=K.parV (Kd.V_mono (ok':=fun k=>P0_ k) hs0 (fun _ h=>h))
 clear hs0
 try simp only[klv]at K
 rw[whole_signed.f]at h
 by_cases c_0:a1=true
 ·subst c_0
  rw[if_pos rfl]at h
  replace h:=bindA h
  obtain⟨z3,A4,h⟩:=h
  simp only[Option.some.injEq,Prod.mk.injEq]at h
  obtain⟨rfl,rfl⟩:=h
  go_enter Tryz.func47,Tryz.ntmps47
  go_wp2_with (first|(refine gd 4 rfl ?_;refine kbk 4 #[.slice none 0 0,.bool false] 80 K.u ?_;clear K;intro g1 W2 K)|(refine gd 9 rfl ?_;refine gate_guard (by rfl) ?_;refine kgl (some 9) rfl rfl Tryz.func54 #[.slice A0 l0.length c0] rfl ?_;refine(whole_amount_null.calls _ _ l0 z3 _ (K.C 0 rfl) (K.le 0 rfl) A4.out).mono ?_;rintro e W5 ⟨rfl,hb⟩;refine⟨_,rfl,?_⟩;replace K:=K.u.up hb.below;clear hb)|(refine gs 80 4 12 rfl ?_;refine ks2 0 (.slice A0 l0.length c0) (.bool !z3) K.u rfl ?_;clear K;intro W6 K;simp only[kls,klv]at K))
  refine bodyPost_ret (results_single rfl (.cell g1 80 #[.slice A0 l0.length c0,.bool !z3] (0,0) _ rfl (K.u.heap 0 rfl) Tryz.underlying80 rfl (by kernel_rfl) .nil)) rfl ?_
  exact⟨_,rfl,K.u.hand 0 rfl (fun k_ h=>h.elim (fun h=>.inl h) .inr),K.u.below⟩
 replace c_0:=Bool.eq_false_iff.mpr c_0
 subst c_0
 rw[if_neg (by decide)]at h
 simp only[Option.some.injEq,Prod.mk.injEq]at h
 obtain⟨rfl,rfl⟩:=h
 go_enter Tryz.func47,Tryz.ntmps47
 go_wp2_with (first|(refine gd 4 rfl ?_;refine kbk 4 #[.slice none 0 0,.bool false] 80 K.u ?_;clear K;intro g1 W2 K)|(refine gs 80 4 12 rfl ?_;refine ks2 0 (.slice A0 l0.length c0) (.bool false) K.u rfl ?_;clear K;intro W3 K;simp only[kls,klv]at K))
 refine bodyPost_ret (results_single rfl (.cell g1 80 #[.slice A0 l0.length c0,.bool false] (0,0) _ rfl (K.u.heap 0 rfl) Tryz.underlying80 rfl (by kernel_rfl) .nil)) rfl ?_
 exact⟨_,rfl,K.u.hand 0 rfl (fun k_ h=>h.elim (fun h=>.inl h) .inr),K.u.below⟩
end Go.Proofs.YtikencoikigllaaGreatDoor.PRy
namespace Go.Proofs.YtikencoikigllaaGreatDoor.PRy
open Go.RowKit Go.Proofs.YtikencoikigllaaGreatDoorW.PrintWords Go.Proofs.YtikencoikigllaaGreatDoorW.PrintLast Go.Proofs.YtikencoikigllaaGreatDoorW.PrintMore
open Go.Proofs.YtikencoikigllaaGreatDoor.Mine
attribute [local go_sem] max2_int min2_int max_two min_two max_three min_three max_four min_four
mutual
def bits_Div64.j2:Nat→Int→Int→Int→Int→Int→Int→Int→Int→Option (Int×Int)
 | 0,_,_,_,_,_,_,_,_=>none
 | k+1,x2,x8,x9,x10,x11,x13,x14,x15=>if x9=0 then(none) else(bits_Div64.l1 k x2 x8 x9 x10 x14 x15 (IntKind.u64.wrap ((IntKind.u64.wrap ((IntKind.u64.wrap ((IntKind.u64.wrap (x11*4294967296))+x13))-(IntKind.u64.wrap (x15*x2))))-(IntKind.u64.wrap ((IntKind.u64.wrap (Int.tdiv (IntKind.u64.wrap ((IntKind.u64.wrap ((IntKind.u64.wrap (x11*4294967296))+x13))-(IntKind.u64.wrap (x15*x2)))) x9))*x9)))) (IntKind.u64.wrap ((IntKind.u64.wrap ((IntKind.u64.wrap (x11*4294967296))+x13))-(IntKind.u64.wrap (x15*x2)))) (IntKind.u64.wrap (Int.tdiv (IntKind.u64.wrap ((IntKind.u64.wrap ((IntKind.u64.wrap (x11*4294967296))+x13))-(IntKind.u64.wrap (x15*x2)))) x9)))
def bits_Div64.l1:Nat→Int→Int→Int→Int→Int→Int→Int→Int→Int→Option (Int×Int)
 | 0,_,_,_,_,_,_,_,_,_=>none
 | k+1,x2,x8,x9,x10,x14,x15,x16,x17,x18=>if x18≥4294967296 then(bits_Div64.j4 k x2 x8 x9 x10 x14 x15 x16 x17 x18 true) else(bits_Div64.j4 k x2 x8 x9 x10 x14 x15 x16 x17 x18 (decide ((IntKind.u64.wrap (x18*x10))>(IntKind.u64.wrap ((IntKind.u64.wrap (4294967296*x16))+x14)))))
def bits_Div64.j4:Nat→Int→Int→Int→Int→Int→Int→Int→Int→Int→Bool→Option (Int×Int)
 | 0,_,_,_,_,_,_,_,_,_,_=>none
 | k+1,x2,x8,x9,x10,x14,x15,x16,x17,x18,x113=>if x113=true then(if(IntKind.u64.wrap (x16+x9))≥4294967296 then(if 0≤x8 then(some (IntKind.u64.wrap ((IntKind.u64.wrap (x15*4294967296))+(IntKind.u64.wrap (x18-1))),shr .u64 (IntKind.u64.wrap ((IntKind.u64.wrap ((IntKind.u64.wrap (x17*4294967296))+x14))-(IntKind.u64.wrap ((IntKind.u64.wrap (x18-1))*x2)))) x8)) else(none)) else(bits_Div64.l1 k x2 x8 x9 x10 x14 x15 (IntKind.u64.wrap (x16+x9)) x17 (IntKind.u64.wrap (x18-1)))) else(if 0≤x8 then(some (IntKind.u64.wrap ((IntKind.u64.wrap (x15*4294967296))+x18),shr .u64 (IntKind.u64.wrap ((IntKind.u64.wrap ((IntKind.u64.wrap (x17*4294967296))+x14))-(IntKind.u64.wrap (x18*x2)))) x8)) else(none))
def bits_Div64.l0:Nat→Int→Int→Int→Int→Int→Int→Int→Int→Int→Option (Int×Int)
 | 0,_,_,_,_,_,_,_,_,_=>none
 | k+1,x2,x8,x9,x10,x11,x13,x14,x15,x16=>if x15≥4294967296 then(bits_Div64.j1 k x2 x8 x9 x10 x11 x13 x14 x15 x16 true) else(bits_Div64.j1 k x2 x8 x9 x10 x11 x13 x14 x15 x16 (decide ((IntKind.u64.wrap (x15*x10))>(IntKind.u64.wrap ((IntKind.u64.wrap (4294967296*x16))+x13)))))
def bits_Div64.j1:Nat→Int→Int→Int→Int→Int→Int→Int→Int→Int→Bool→Option (Int×Int)
 | 0,_,_,_,_,_,_,_,_,_,_=>none
 | k+1,x2,x8,x9,x10,x11,x13,x14,x15,x16,x78=>if x78=true then(if(IntKind.u64.wrap (x16+x9))≥4294967296 then(bits_Div64.j2 k x2 x8 x9 x10 x11 x13 x14 (IntKind.u64.wrap (x15-1))) else(bits_Div64.l0 k x2 x8 x9 x10 x11 x13 x14 (IntKind.u64.wrap (x15-1)) (IntKind.u64.wrap (x16+x9)))) else(bits_Div64.j2 k x2 x8 x9 x10 x11 x13 x14 x15)
end
def bits_Div64.f (k:Nat) (a0:Int) (a1:Int) (a2:Int):Option (Int×Int):=if a2=0 then(none) else(if a2≤a0 then(none) else(if a0=0 then(some (IntKind.u64.wrap (Int.tdiv a1 a2),Int.tmod a1 a2)) else((bits_LeadingZeros64.f a2).bind fun t165=>(if 0≤(IntKind.u64.wrap (t165)) then(if 0≤(IntKind.u64.wrap (64-(IntKind.u64.wrap (t165)))) then(if((shl .u64 a2 (IntKind.u64.wrap (t165)))/4294967296)=0 then(none) else(bits_Div64.l0 k (shl .u64 a2 (IntKind.u64.wrap (t165))) (IntKind.u64.wrap (t165)) ((shl .u64 a2 (IntKind.u64.wrap (t165)))/4294967296) (Go.bits .and .u64 (shl .u64 a2 (IntKind.u64.wrap (t165))) 4294967295) (Go.bits .or .u64 (shl .u64 a0 (IntKind.u64.wrap (t165))) (shr .u64 a1 (IntKind.u64.wrap (64-(IntKind.u64.wrap (t165)))))) ((shl .u64 a1 (IntKind.u64.wrap (t165)))/4294967296) (Go.bits .and .u64 (shl .u64 a1 (IntKind.u64.wrap (t165))) 4294967295) (IntKind.u64.wrap (Int.tdiv (Go.bits .or .u64 (shl .u64 a0 (IntKind.u64.wrap (t165))) (shr .u64 a1 (IntKind.u64.wrap (64-(IntKind.u64.wrap (t165)))))) ((shl .u64 a2 (IntKind.u64.wrap (t165)))/4294967296))) (IntKind.u64.wrap ((Go.bits .or .u64 (shl .u64 a0 (IntKind.u64.wrap (t165))) (shr .u64 a1 (IntKind.u64.wrap (64-(IntKind.u64.wrap (t165))))))-(IntKind.u64.wrap ((IntKind.u64.wrap (Int.tdiv (Go.bits .or .u64 (shl .u64 a0 (IntKind.u64.wrap (t165))) (shr .u64 a1 (IntKind.u64.wrap (64-(IntKind.u64.wrap (t165)))))) ((shl .u64 a2 (IntKind.u64.wrap (t165)))/4294967296)))*((shl .u64 a2 (IntKind.u64.wrap (t165)))/4294967296))))))) else(none)) else(none)))))
theorem bits_Div64.calls (k:Nat) (a0:Int) (a1:Int) (a2:Int) (r1:Int) (r2:Int) (w:World) (h:bits_Div64.f k a0 a1 a2=some (r1,r2)) :
  Calls Tryz.prog 119 #[.int .u64 a0,.int .u64 a1,.int .u64 a2] w fun e w'=>e=.returned (.tuple #[.int .u64 r1,.int .u64 r2])∧Drawn0 w w':=by
 have H:(if a2=0 then(none) else(if a2≤a0 then(none) else(if a0=0 then(some (IntKind.u64.wrap (Int.tdiv a1 a2),Int.tmod a1 a2)) else((bits_LeadingZeros64.f a2).bind fun t165=>(if 0≤(IntKind.u64.wrap (t165)) then(if 0≤(IntKind.u64.wrap (64-(IntKind.u64.wrap (t165)))) then(if((shl .u64 a2 (IntKind.u64.wrap (t165)))/4294967296)=0 then(none) else(bits_Div64.l0 k (shl .u64 a2 (IntKind.u64.wrap (t165))) (IntKind.u64.wrap (t165)) ((shl .u64 a2 (IntKind.u64.wrap (t165)))/4294967296) (Go.bits .and .u64 (shl .u64 a2 (IntKind.u64.wrap (t165))) 4294967295) (Go.bits .or .u64 (shl .u64 a0 (IntKind.u64.wrap (t165))) (shr .u64 a1 (IntKind.u64.wrap (64-(IntKind.u64.wrap (t165)))))) ((shl .u64 a1 (IntKind.u64.wrap (t165)))/4294967296) (Go.bits .and .u64 (shl .u64 a1 (IntKind.u64.wrap (t165))) 4294967295) (IntKind.u64.wrap (Int.tdiv (Go.bits .or .u64 (shl .u64 a0 (IntKind.u64.wrap (t165))) (shr .u64 a1 (IntKind.u64.wrap (64-(IntKind.u64.wrap (t165)))))) ((shl .u64 a2 (IntKind.u64.wrap (t165)))/4294967296))) (IntKind.u64.wrap ((Go.bits .or .u64 (shl .u64 a0 (IntKind.u64.wrap (t165))) (shr .u64 a1 (IntKind.u64.wrap (64-(IntKind.u64.wrap (t165))))))-(IntKind.u64.wrap ((IntKind.u64.wrap (Int.tdiv (Go.bits .or .u64 (shl .u64 a0 (IntKind.u64.wrap (t165))) (shr .u64 a1 (IntKind.u64.wrap (64-(IntKind.u64.wrap (t165)))))) ((shl .u64 a2 (IntKind.u64.wrap (t165)))/4294967296)))*((shl .u64 a2 (IntKind.u64.wrap (t165)))/4294967296))))))) else(none)) else(none))))))=some (r1,r2):=h
 clear h
 by_cases c4:a2=0
 ·rw[if_pos c4]at H
  exact absurd H (by simp)
 rw[if_neg c4]at H
 have c4b0:(a2==0)=false:=beq_eq_false_iff_ne.mpr c4
 have c4b1:(a2 != 0)=true:=bne_iff_ne.mpr c4
 by_cases c5:a2≤a0
 ·rw[if_pos c5]at H
  exact absurd H (by simp)
 rw[if_neg c5]at H
 have c5b0:decide (a2≤a0)=false:=decide_eq_false c5
 clear c5
 by_cases c6:a0=0
 ·rw[if_pos c6]at H
  have c6b0:(a0==0)=true:=beq_iff_eq.mpr c6
  have c6b1:(a0 != 0)=false:=bne_eq_false_iff_eq.mpr c6
  clear c6
  simp only[Option.some.injEq,Prod.mk.injEq]at H
  obtain⟨rfl,rfl⟩:=H
  go_enter Tryz.func119,Tryz.ntmps119
  go_wp2
  repeat (go_quiet (fail);try go_wp2)
  go_ret2
  exact⟨by first|rfl|(simp;done)|(simp[*];done),by repeat (first|exact Drawn0.refl _|apply Drawn0.step)⟩
 rw[if_neg c6]at H
 have c6b0:(a0==0)=false:=beq_eq_false_iff_ne.mpr c6
 have c6b1:(a0 != 0)=true:=bne_iff_ne.mpr c6
 replace H:=Option.bind_eq_some_iff.mp H
 obtain⟨t165,A70,H⟩:=H
 replace H:(if 0≤(IntKind.u64.wrap (t165)) then(if 0≤(IntKind.u64.wrap (64-(IntKind.u64.wrap (t165)))) then(if((shl .u64 a2 (IntKind.u64.wrap (t165)))/4294967296)=0 then(none) else(bits_Div64.l0 k (shl .u64 a2 (IntKind.u64.wrap (t165))) (IntKind.u64.wrap (t165)) ((shl .u64 a2 (IntKind.u64.wrap (t165)))/4294967296) (Go.bits .and .u64 (shl .u64 a2 (IntKind.u64.wrap (t165))) 4294967295) (Go.bits .or .u64 (shl .u64 a0 (IntKind.u64.wrap (t165))) (shr .u64 a1 (IntKind.u64.wrap (64-(IntKind.u64.wrap (t165)))))) ((shl .u64 a1 (IntKind.u64.wrap (t165)))/4294967296) (Go.bits .and .u64 (shl .u64 a1 (IntKind.u64.wrap (t165))) 4294967295) (IntKind.u64.wrap (Int.tdiv (Go.bits .or .u64 (shl .u64 a0 (IntKind.u64.wrap (t165))) (shr .u64 a1 (IntKind.u64.wrap (64-(IntKind.u64.wrap (t165)))))) ((shl .u64 a2 (IntKind.u64.wrap (t165)))/4294967296))) (IntKind.u64.wrap ((Go.bits .or .u64 (shl .u64 a0 (IntKind.u64.wrap (t165))) (shr .u64 a1 (IntKind.u64.wrap (64-(IntKind.u64.wrap (t165))))))-(IntKind.u64.wrap ((IntKind.u64.wrap (Int.tdiv (Go.bits .or .u64 (shl .u64 a0 (IntKind.u64.wrap (t165))) (shr .u64 a1 (IntKind.u64.wrap (64-(IntKind.u64.wrap (t165)))))) ((shl .u64 a2 (IntKind.u64.wrap (t165)))/4294967296)))*((shl .u64 a2 (IntKind.u64.wrap (t165)))/4294967296))))))) else(none)) else(none))=some (r1,r2):=H
 have A7:=Aside0.mk A70
 clear A70
 obtain⟨ji8,hji8⟩:∃j_:Int,(IntKind.u64.wrap (t165))=j_:=⟨_,rfl⟩
 replace H:(if 0≤(ji8) then(if 0≤(IntKind.u64.wrap (64-(ji8))) then(if((shl .u64 a2 (ji8))/4294967296)=0 then(none) else(bits_Div64.l0 k (shl .u64 a2 (ji8)) ji8 ((shl .u64 a2 (ji8))/4294967296) (Go.bits .and .u64 (shl .u64 a2 (ji8)) 4294967295) (Go.bits .or .u64 (shl .u64 a0 (ji8)) (shr .u64 a1 (IntKind.u64.wrap (64-(ji8))))) ((shl .u64 a1 (ji8))/4294967296) (Go.bits .and .u64 (shl .u64 a1 (ji8)) 4294967295) (IntKind.u64.wrap (Int.tdiv (Go.bits .or .u64 (shl .u64 a0 (ji8)) (shr .u64 a1 (IntKind.u64.wrap (64-(ji8))))) ((shl .u64 a2 (ji8))/4294967296))) (IntKind.u64.wrap ((Go.bits .or .u64 (shl .u64 a0 (ji8)) (shr .u64 a1 (IntKind.u64.wrap (64-(ji8)))))-(IntKind.u64.wrap ((IntKind.u64.wrap (Int.tdiv (Go.bits .or .u64 (shl .u64 a0 (ji8)) (shr .u64 a1 (IntKind.u64.wrap (64-(ji8))))) ((shl .u64 a2 (ji8))/4294967296)))*((shl .u64 a2 (ji8))/4294967296))))))) else(none)) else(none))=some (r1,r2):=by first|(rw[hji8]at H;exact H)|(simp only[hji8]at H ⊢;exact H)
 (try rw[hji8]at A7)
 by_cases c9:0≤(ji8)
 ·rw [if_pos c9]at H
  have c9b0:=eq_true c9
  have c9b1:decide (0≤(ji8))=true:=decide_eq_true c9
  clear c9
  obtain⟨ji10,hji10⟩:∃j_:Int,(shl .u64 a2 (ji8))=j_:=⟨_,rfl⟩
  replace H:(if 0≤(IntKind.u64.wrap (64-(ji8))) then(if((ji10)/4294967296)=0 then(none) else(bits_Div64.l0 k ji10 ji8 ((ji10)/4294967296) (Go.bits .and .u64 (ji10) 4294967295) (Go.bits .or .u64 (shl .u64 a0 (ji8)) (shr .u64 a1 (IntKind.u64.wrap (64-(ji8))))) ((shl .u64 a1 (ji8))/4294967296) (Go.bits .and .u64 (shl .u64 a1 (ji8)) 4294967295) (IntKind.u64.wrap (Int.tdiv (Go.bits .or .u64 (shl .u64 a0 (ji8)) (shr .u64 a1 (IntKind.u64.wrap (64-(ji8))))) ((ji10)/4294967296))) (IntKind.u64.wrap ((Go.bits .or .u64 (shl .u64 a0 (ji8)) (shr .u64 a1 (IntKind.u64.wrap (64-(ji8)))))-(IntKind.u64.wrap ((IntKind.u64.wrap (Int.tdiv (Go.bits .or .u64 (shl .u64 a0 (ji8)) (shr .u64 a1 (IntKind.u64.wrap (64-(ji8))))) ((ji10)/4294967296)))*((ji10)/4294967296))))))) else(none))=some (r1,r2):=by first|(rw[hji10]at H;exact H)|(simp only[hji10]at H ⊢;exact H)
  (try rw[hji10]at A7)
  have hji10_:(IntKind.u64.wrap (a2*2^min (ji8).toNat 64))=ji10:=hji10
  have hji10z:(ji8)≤64→(IntKind.u64.wrap (a2*2^(ji8).toNat))=ji10:=shl_small hji10
  have c11b0:=eq_true (of_decide_eq_true ‹_›:0≤(ji8))
  obtain⟨ji12,hji12⟩:∃j_:Int,(shl .u64 a0 (ji8))=j_:=⟨_,rfl⟩
  replace H:(if 0≤(IntKind.u64.wrap (64-(ji8))) then(if((ji10)/4294967296)=0 then(none) else(bits_Div64.l0 k ji10 ji8 ((ji10)/4294967296) (Go.bits .and .u64 (ji10) 4294967295) (Go.bits .or .u64 (ji12) (shr .u64 a1 (IntKind.u64.wrap (64-(ji8))))) ((shl .u64 a1 (ji8))/4294967296) (Go.bits .and .u64 (shl .u64 a1 (ji8)) 4294967295) (IntKind.u64.wrap (Int.tdiv (Go.bits .or .u64 (ji12) (shr .u64 a1 (IntKind.u64.wrap (64-(ji8))))) ((ji10)/4294967296))) (IntKind.u64.wrap ((Go.bits .or .u64 (ji12) (shr .u64 a1 (IntKind.u64.wrap (64-(ji8)))))-(IntKind.u64.wrap ((IntKind.u64.wrap (Int.tdiv (Go.bits .or .u64 (ji12) (shr .u64 a1 (IntKind.u64.wrap (64-(ji8))))) ((ji10)/4294967296)))*((ji10)/4294967296))))))) else(none))=some (r1,r2):=by first|(rw[hji12]at H;exact H)|(simp only[hji12]at H ⊢;exact H)
  (try rw[hji12]at A7)
  have hji12_:(IntKind.u64.wrap (a0*2^min (ji8).toNat 64))=ji12:=hji12
  have hji12z:(ji8)≤64→(IntKind.u64.wrap (a0*2^(ji8).toNat))=ji12:=shl_small hji12
  obtain⟨ji13,hji13⟩:∃j_:Int,(IntKind.u64.wrap (64-(ji8)))=j_:=⟨_,rfl⟩
  replace H:(if 0≤(ji13) then(if((ji10)/4294967296)=0 then(none) else(bits_Div64.l0 k ji10 ji8 ((ji10)/4294967296) (Go.bits .and .u64 (ji10) 4294967295) (Go.bits .or .u64 (ji12) (shr .u64 a1 (ji13))) ((shl .u64 a1 (ji8))/4294967296) (Go.bits .and .u64 (shl .u64 a1 (ji8)) 4294967295) (IntKind.u64.wrap (Int.tdiv (Go.bits .or .u64 (ji12) (shr .u64 a1 (ji13))) ((ji10)/4294967296))) (IntKind.u64.wrap ((Go.bits .or .u64 (ji12) (shr .u64 a1 (ji13)))-(IntKind.u64.wrap ((IntKind.u64.wrap (Int.tdiv (Go.bits .or .u64 (ji12) (shr .u64 a1 (ji13))) ((ji10)/4294967296)))*((ji10)/4294967296))))))) else(none))=some (r1,r2):=by first|(rw[hji13]at H;exact H)|(simp only[hji13]at H ⊢;exact H)
  (try rw[hji13]at A7)
  by_cases c14:0≤(ji13)
  ·rw [if_pos c14]at H
   have c14b0:=eq_true c14
   have c14b1:decide (0≤(ji13))=true:=decide_eq_true c14
   clear c14
   obtain⟨ji15,hji15⟩:∃j_:Int,(shr .u64 a1 (ji13))=j_:=⟨_,rfl⟩
   replace H:(if((ji10)/4294967296)=0 then(none) else(bits_Div64.l0 k ji10 ji8 ((ji10)/4294967296) (Go.bits .and .u64 (ji10) 4294967295) (Go.bits .or .u64 (ji12) (ji15)) ((shl .u64 a1 (ji8))/4294967296) (Go.bits .and .u64 (shl .u64 a1 (ji8)) 4294967295) (IntKind.u64.wrap (Int.tdiv (Go.bits .or .u64 (ji12) (ji15)) ((ji10)/4294967296))) (IntKind.u64.wrap ((Go.bits .or .u64 (ji12) (ji15))-(IntKind.u64.wrap ((IntKind.u64.wrap (Int.tdiv (Go.bits .or .u64 (ji12) (ji15)) ((ji10)/4294967296)))*((ji10)/4294967296)))))))=some (r1,r2):=by first|(rw[hji15]at H;exact H)|(simp only[hji15]at H ⊢;exact H)
   (try rw[hji15]at A7)
   have hji15_:(a1/2^min (ji13).toNat 64)=ji15:=hji15
   have hji15z:(ji13)≤64→(a1/2^(ji13).toNat)=ji15:=shr_small hji15
   have c16b0:=eq_true (of_decide_eq_true ‹_›:0≤(ji8))
   obtain⟨ji17,hji17⟩:∃j_:Int,(shl .u64 a1 (ji8))=j_:=⟨_,rfl⟩
   replace H:(if((ji10)/4294967296)=0 then(none) else(bits_Div64.l0 k ji10 ji8 ((ji10)/4294967296) (Go.bits .and .u64 (ji10) 4294967295) (Go.bits .or .u64 (ji12) (ji15)) ((ji17)/4294967296) (Go.bits .and .u64 (ji17) 4294967295) (IntKind.u64.wrap (Int.tdiv (Go.bits .or .u64 (ji12) (ji15)) ((ji10)/4294967296))) (IntKind.u64.wrap ((Go.bits .or .u64 (ji12) (ji15))-(IntKind.u64.wrap ((IntKind.u64.wrap (Int.tdiv (Go.bits .or .u64 (ji12) (ji15)) ((ji10)/4294967296)))*((ji10)/4294967296)))))))=some (r1,r2):=by first|(rw[hji17]at H;exact H)|(simp only[hji17]at H ⊢;exact H)
   (try rw[hji17]at A7)
   have hji17_:(IntKind.u64.wrap (a1*2^min (ji8).toNat 64))=ji17:=hji17
   have hji17z:(ji8)≤64→(IntKind.u64.wrap (a1*2^(ji8).toNat))=ji17:=shl_small hji17
   by_cases c18:((ji10)/4294967296)=0
   ·rw[if_pos c18]at H
    exact absurd H (by simp)
   rw[if_neg c18]at H
   have c18b0:(((ji10)/4294967296)==0)=false:=beq_eq_false_iff_ne.mpr c18
   have c18b1:(((ji10)/4294967296) != 0)=true:=bne_iff_ne.mpr c18
   have HC19:=Aside0.mk H
   clear H
   go_enter Tryz.func119,Tryz.ntmps119
   go_upto_block 0 with(first|(go_at_call 180;(with_reducible refine(bits_LeadingZeros64.calls a2 t165 _ A7.out).mono ?_);rintro e w' ⟨rfl,⟨nd,rfl⟩⟩;(try first|exact⟨rfl,_,World.drewN_drewN _ _ _⟩|exact⟨rfl,_,Eq.trans (World.drewN_drewN _ _ _) (congrArg (World.drewN _) (Nat.add_assoc _ _ _))⟩)))
   repeat (go_quiet (first|(go_at_call 180;(with_reducible refine(bits_LeadingZeros64.calls a2 t165 _ A7.out).mono ?_);rintro e w' ⟨rfl,⟨nd,rfl⟩⟩;(try first|exact⟨rfl,_,World.drewN_drewN _ _ _⟩|exact⟨rfl,_,Eq.trans (World.drewN_drewN _ _ _) (congrArg (World.drewN _) (Nat.add_assoc _ _ _))⟩)));go_upto_block 0 with(first|(go_at_call 180;(with_reducible refine(bits_LeadingZeros64.calls a2 t165 _ A7.out).mono ?_);rintro e w' ⟨rfl,⟨nd,rfl⟩⟩;(try first|exact⟨rfl,_,World.drewN_drewN _ _ _⟩|exact⟨rfl,_,Eq.trans (World.drewN_drewN _ _ _) (congrArg (World.drewN _) (Nat.add_assoc _ _ _))⟩))))
   (try simp only[Act.put,kss])
   go_cut [15] (fun v15 wc=>∃(kq:Nat) (x15_18:Int),v15=.int .u64 x15_18∧Aside0 (bits_Div64.j2 kq ji10 ji8 ((ji10)/4294967296) (Go.bits .and .u64 (ji10) 4294967295) (Go.bits .or .u64 (ji12) (ji15)) ((ji17)/4294967296) (Go.bits .and .u64 (ji17) 4294967295) x15_18=some (r1,r2))∧Aside0 (kq≤k)∧Drawn0 w wc)
   case first=>
    have H:=HC19.out
    clear HC19
    have H':=Aside0.mk H
    clear H
    go_wp2
    repeat (go_quiet (fail);try go_wp2)
    go_loopg [15,16] k (fun kq v15 v16 w'=>∃(x15_1:Int) (x16_1:Int),v15=.int .u64 x15_1∧v16=.int .u64 x16_1∧Aside0 (bits_Div64.l0 kq ji10 ji8 ((ji10)/4294967296) (Go.bits .and .u64 (ji10) 4294967295) (Go.bits .or .u64 (ji12) (ji15)) ((ji17)/4294967296) (Go.bits .and .u64 (ji17) 4294967295) x15_1 x16_1=some (r1,r2))∧Aside0 (kq≤k)∧Drawn0 w w')
    case atStart=>exact⟨(IntKind.u64.wrap (Int.tdiv (Go.bits .or .u64 (ji12) (ji15)) ((ji10)/4294967296))),(IntKind.u64.wrap ((Go.bits .or .u64 (ji12) (ji15))-(IntKind.u64.wrap ((IntKind.u64.wrap (Int.tdiv (Go.bits .or .u64 (ji12) (ji15)) ((ji10)/4294967296)))*((ji10)/4294967296))))),(by first|rfl|(simp;done)|(simp only[←hji10,←hji12,←hji15]<;>(first|rfl|simp))|(simp[*];done)),(by first|rfl|(simp;done)|(simp only[←hji10,←hji12,←hji15]<;>(first|rfl|simp))|(simp[*];done)),H',⟨Nat.le_refl _⟩,by repeat (first|exact Drawn0.refl _|apply Drawn0.step)⟩
    case round=>
     clear H'
     try clear c1
     try clear p2
     try clear c4
     try clear c4b0
     try clear c4b1
     try clear c5
     try clear c5b0
     try clear c6
     try clear c6b0
     try clear c6b1
     try clear c9
     try clear c9b0
     try clear c9b1
     try clear c11
     try clear c11b0
     try clear c14
     try clear c14b0
     try clear c14b1
     try clear c16
     try clear c16b0
     try clear c18
     try clear c18b0
     try clear c18b1
     obtain⟨x15_1,x16_1,rfl,rfl,HA,HK1,⟨m1,rfl⟩⟩:=hrel
     cases gk with
     | zero=>exact absurd HA.out (by simp[bits_Div64.l0])
     | succ k1=>
      have H:=HA.out
      clear HA
      simp only[bits_Div64.l0]at H
      have HC20:=Aside0.mk H
      clear H
      go_upto_region 17 with(fail)
      repeat (go_quiet (fail);go_upto_region 17 with(fail))
      go_cut [78] (fun v78 wc=>∃(kq:Nat) (x78_19:Bool),v78=.bool x78_19∧Aside0 (bits_Div64.j1 kq ji10 ji8 ((ji10)/4294967296) (Go.bits .and .u64 (ji10) 4294967295) (Go.bits .or .u64 (ji12) (ji15)) ((ji17)/4294967296) (Go.bits .and .u64 (ji17) 4294967295) x15_1 x16_1 x78_19=some (r1,r2))∧Aside0 (kq≤k1)∧Drawn0 w wc)
      case first=>
       have H:=HC20.out
       clear HC20
       by_cases c21:x15_1≥4294967296
       ·rw[if_pos c21]at H
        have c21b0:decide (4294967296≤x15_1)=true:=decide_eq_true c21
        clear c21
        (first|rw[c21b0]|rw[c21b1]|(simp only[i64_w,i32_w];rw[c21b0])|skip)
        have H':=Aside0.mk H
        clear H
        go_wp2
        repeat (go_quiet (fail);try go_wp2)
        go_meet
        case rel=>exact⟨_,(true),(by first|rfl|(simp;done)|(simp[*];done)),H',⟨by have:=HK1.out;first|omega|exact Nat.le_refl _⟩,by repeat (first|exact Drawn0.refl _|apply Drawn0.step)⟩
       rw[if_neg c21]at H
       have c21b0:decide (4294967296≤x15_1)=false:=decide_eq_false c21
       clear c21
       (first|rw[c21b0]|rw[c21b1]|(simp only[i64_w,i32_w];rw[c21b0])|skip)
       have H':=Aside0.mk H
       clear H
       go_wp2
       repeat (go_quiet (fail);try go_wp2)
       go_meet
       case rel=>exact⟨_,(decide ((IntKind.u64.wrap (x15_1*(Go.bits .and .u64 (ji10) 4294967295)))>(IntKind.u64.wrap ((IntKind.u64.wrap (4294967296*x16_1))+((ji17)/4294967296))))),(by first|rfl|(simp;done)|(simp only[←hji10,←hji17]<;>(first|rfl|simp))|(simp[*];done)),H',⟨by have:=HK1.out;first|omega|exact Nat.le_refl _⟩,by repeat (first|exact Drawn0.refl _|apply Drawn0.step)⟩
      case rest=>
       clear HC20
       try clear c1
       try clear c2
       try clear p2
       try clear c4
       try clear c4b0
       try clear c4b1
       try clear c5
       try clear c5b0
       try clear c6
       try clear c6b0
       try clear c6b1
       try clear c9
       try clear c9b0
       try clear c9b1
       try clear c11
       try clear c11b0
       try clear c14
       try clear c14b0
       try clear c14b1
       try clear c16
       try clear c16b0
       try clear c18
       try clear c18b0
       try clear c18b1
       try clear c21
       try clear c21b0
       try clear c21b1
       try clear p2
       obtain⟨kq,x78_19,rfl,HA,HJ19,⟨mc19,rfl⟩⟩:=hcut
       cases kq with
       | zero=>exact absurd HA.out (by simp[bits_Div64.j1])
       | succ kj19=>
        have H:=HA.out
        clear HA
        simp only[bits_Div64.j1]at H
        by_cases c22:x78_19=true
        ·subst c22
         have H1:(if(IntKind.u64.wrap (x16_1+((ji10)/4294967296)))≥4294967296 then(bits_Div64.j2 kj19 ji10 ji8 ((ji10)/4294967296) (Go.bits .and .u64 (ji10) 4294967295) (Go.bits .or .u64 (ji12) (ji15)) ((ji17)/4294967296) (Go.bits .and .u64 (ji17) 4294967295) (IntKind.u64.wrap (x15_1-1))) else(bits_Div64.l0 kj19 ji10 ji8 ((ji10)/4294967296) (Go.bits .and .u64 (ji10) 4294967295) (Go.bits .or .u64 (ji12) (ji15)) ((ji17)/4294967296) (Go.bits .and .u64 (ji17) 4294967295) (IntKind.u64.wrap (x15_1-1)) (IntKind.u64.wrap (x16_1+((ji10)/4294967296)))))=some (r1,r2):=by rw[if_pos rfl]at H;exact H
         clear H
         have H:=H1
         clear H1
         by_cases c23:(IntKind.u64.wrap (x16_1+((ji10)/4294967296)))≥4294967296
         ·rw[if_pos c23]at H
          have c23b0:decide (4294967296≤(IntKind.u64.wrap (x16_1+((ji10)/4294967296))))=true:=decide_eq_true c23
          clear c23
          have H':=Aside0.mk H
          clear H
          go_wp2
          repeat (go_quiet (fail);try go_wp2)
          go_meet
          case rel=>exact⟨_,(IntKind.u64.wrap (x15_1-1)),(by first|rfl|(simp;done)|(simp[*];done)),H',⟨by have:=HK1.out;have:=HJ19.out;first|omega|exact Nat.le_refl _⟩,by repeat (first|exact Drawn0.refl _|apply Drawn0.step)⟩
         rw[if_neg c23]at H
         have c23b0:decide (4294967296≤(IntKind.u64.wrap (x16_1+((ji10)/4294967296))))=false:=decide_eq_false c23
         clear c23
         have H':=Aside0.mk H
         clear H
         go_wp2
         repeat (go_quiet (fail);try go_wp2)
         go_roundg kj19
         case measure=>have:=HK1.out;have:=HJ19.out;omega
         case rel=>exact⟨(IntKind.u64.wrap (x15_1-1)),(IntKind.u64.wrap (x16_1+((ji10)/4294967296))),(by first|rfl|(simp;done)|(simp[*];done)),(by first|rfl|(simp;done)|(simp only[←hji10]<;>(first|rfl|simp))|(simp[*];done)),H',⟨by have:=HK1.out;have:=HJ19.out;omega⟩,by repeat (first|exact Drawn0.refl _|apply Drawn0.step)⟩
        replace c22:=Bool.eq_false_iff.mpr c22
        subst c22
        have H1:(bits_Div64.j2 kj19 ji10 ji8 ((ji10)/4294967296) (Go.bits .and .u64 (ji10) 4294967295) (Go.bits .or .u64 (ji12) (ji15)) ((ji17)/4294967296) (Go.bits .and .u64 (ji17) 4294967295) x15_1)=some (r1,r2):=by rw[if_neg (show ¬(false=true) by decide)]at H;exact H
        clear H
        have H:=H1
        clear H1
        have H':=Aside0.mk H
        clear H
        go_wp2
        repeat (go_quiet (fail);try go_wp2)
        go_meet
        case rel=>exact⟨_,(x15_1),(by first|rfl|(simp;done)|(simp[*];done)),H',⟨by have:=HK1.out;have:=HJ19.out;first|omega|exact Nat.le_refl _⟩,by repeat (first|exact Drawn0.refl _|apply Drawn0.step)⟩
   case rest=>
    clear HC19
    try clear c1
    try clear c2
    try clear p2
    try clear c4
    try clear c4b0
    try clear c4b1
    try clear c5
    try clear c5b0
    try clear c6
    try clear c6b0
    try clear c6b1
    try clear c9
    try clear c9b0
    try clear c9b1
    try clear c11
    try clear c11b0
    try clear c14
    try clear c14b0
    try clear c14b1
    try clear c16
    try clear c16b0
    try clear c18
    try clear c18b0
    try clear c18b1
    try clear c19
    try clear c21
    try clear c21b0
    try clear c21b1
    try clear c22
    try clear c23
    try clear c23b0
    try clear p2
    obtain⟨kq,x15_18,rfl,HA,HJ18,⟨mc18,rfl⟩⟩:=hcut
    cases kq with
    | zero=>exact absurd HA.out (by simp[bits_Div64.j2])
    | succ kj18=>
     have H:=HA.out
     clear HA
     simp only[bits_Div64.j2]at H
     by_cases c24:((ji10)/4294967296)=0
     ·rw[if_pos c24]at H
      exact absurd H (by simp)
     rw[if_neg c24]at H
     have c24b0:(((ji10)/4294967296)==0)=false:=beq_eq_false_iff_ne.mpr c24
     have c24b1:(((ji10)/4294967296) != 0)=true:=bne_iff_ne.mpr c24
     have H':=Aside0.mk H
     clear H
     go_wp2
     repeat (go_quiet (fail);try go_wp2)
     go_loopg [16,18] kj18 (fun kq v16 v18 w'=>∃(x16_2:Int) (x18_2:Int),v16=.int .u64 x16_2∧v18=.int .u64 x18_2∧Aside0 (bits_Div64.l1 kq ji10 ji8 ((ji10)/4294967296) (Go.bits .and .u64 (ji10) 4294967295) (Go.bits .and .u64 (ji17) 4294967295) x15_18 x16_2 (IntKind.u64.wrap ((IntKind.u64.wrap ((IntKind.u64.wrap ((Go.bits .or .u64 (ji12) (ji15))*4294967296))+((ji17)/4294967296)))-(IntKind.u64.wrap (x15_18*ji10)))) x18_2=some (r1,r2))∧Aside0 (kq≤kj18)∧Drawn0 w w')
     case atStart=>exact⟨(IntKind.u64.wrap ((IntKind.u64.wrap ((IntKind.u64.wrap ((IntKind.u64.wrap ((Go.bits .or .u64 (ji12) (ji15))*4294967296))+((ji17)/4294967296)))-(IntKind.u64.wrap (x15_18*ji10))))-(IntKind.u64.wrap ((IntKind.u64.wrap (Int.tdiv (IntKind.u64.wrap ((IntKind.u64.wrap ((IntKind.u64.wrap ((Go.bits .or .u64 (ji12) (ji15))*4294967296))+((ji17)/4294967296)))-(IntKind.u64.wrap (x15_18*ji10)))) ((ji10)/4294967296)))*((ji10)/4294967296))))),(IntKind.u64.wrap (Int.tdiv (IntKind.u64.wrap ((IntKind.u64.wrap ((IntKind.u64.wrap ((Go.bits .or .u64 (ji12) (ji15))*4294967296))+((ji17)/4294967296)))-(IntKind.u64.wrap (x15_18*ji10)))) ((ji10)/4294967296))),(by first|rfl|(simp;done)|(simp only[←hji10,←hji12,←hji15,←hji17]<;>(first|rfl|simp))|(simp[*];done)),(by first|rfl|(simp;done)|(simp only[←hji10,←hji12,←hji15,←hji17]<;>(first|rfl|simp))|(simp[*];done)),H',⟨Nat.le_refl _⟩,by repeat (first|exact Drawn0.refl _|apply Drawn0.step)⟩
     case round=>
      clear H'
      try clear c1
      try clear c2
      try clear p2
      try clear c4
      try clear c4b0
      try clear c4b1
      try clear c5
      try clear c5b0
      try clear c6
      try clear c6b0
      try clear c6b1
      try clear c9
      try clear c9b0
      try clear c9b1
      try clear c11
      try clear c11b0
      try clear c14
      try clear c14b0
      try clear c14b1
      try clear c16
      try clear c16b0
      try clear c18
      try clear c18b0
      try clear c18b1
      try clear c19
      try clear c21
      try clear c21b0
      try clear c21b1
      try clear c22
      try clear c23
      try clear c23b0
      try clear c24
      try clear c24b0
      try clear c24b1
      try clear p2
      obtain⟨x16_2,x18_2,rfl,rfl,HA,HK2,⟨m2,rfl⟩⟩:=hrel
      cases gk with
      | zero=>exact absurd HA.out (by simp[bits_Div64.l1])
      | succ k2=>
       have H:=HA.out
       clear HA
       simp only[bits_Div64.l1]at H
       have HC25:=Aside0.mk H
       clear H
       go_upto_region 24 with(fail)
       repeat (go_quiet (fail);go_upto_region 24 with(fail))
       go_cut [113] (fun v113 wc=>∃(kq:Nat) (x113_24:Bool),v113=.bool x113_24∧Aside0 (bits_Div64.j4 kq ji10 ji8 ((ji10)/4294967296) (Go.bits .and .u64 (ji10) 4294967295) (Go.bits .and .u64 (ji17) 4294967295) x15_18 x16_2 (IntKind.u64.wrap ((IntKind.u64.wrap ((IntKind.u64.wrap ((Go.bits .or .u64 (ji12) (ji15))*4294967296))+((ji17)/4294967296)))-(IntKind.u64.wrap (x15_18*ji10)))) x18_2 x113_24=some (r1,r2))∧Aside0 (kq≤k2)∧Drawn0 w wc)
       case first=>
        have H:=HC25.out
        clear HC25
        by_cases c26:x18_2≥4294967296
        ·rw[if_pos c26]at H
         have c26b0:decide (4294967296≤x18_2)=true:=decide_eq_true c26
         clear c26
         (first|rw[c26b0]|rw[c26b1]|(simp only[i64_w,i32_w];rw[c26b0])|skip)
         have H':=Aside0.mk H
         clear H
         go_wp2
         repeat (go_quiet (fail);try go_wp2)
         go_meet
         case rel=>exact⟨_,(true),(by first|rfl|(simp;done)|(simp[*];done)),H',⟨by have:=HJ18.out;have:=HK2.out;first|omega|exact Nat.le_refl _⟩,by repeat (first|exact Drawn0.refl _|apply Drawn0.step)⟩
        rw[if_neg c26]at H
        have c26b0:decide (4294967296≤x18_2)=false:=decide_eq_false c26
        clear c26
        (first|rw[c26b0]|rw[c26b1]|(simp only[i64_w,i32_w];rw[c26b0])|skip)
        have H':=Aside0.mk H
        clear H
        go_wp2
        repeat (go_quiet (fail);try go_wp2)
        go_meet
        case rel=>exact⟨_,(decide ((IntKind.u64.wrap (x18_2*(Go.bits .and .u64 (ji10) 4294967295)))>(IntKind.u64.wrap ((IntKind.u64.wrap (4294967296*x16_2))+(Go.bits .and .u64 (ji17) 4294967295))))),(by first|rfl|(simp;done)|(simp only[←hji10,←hji17]<;>(first|rfl|simp))|(simp[*];done)),H',⟨by have:=HJ18.out;have:=HK2.out;first|omega|exact Nat.le_refl _⟩,by repeat (first|exact Drawn0.refl _|apply Drawn0.step)⟩
       case rest=>
        clear HC25
        try clear c1
        try clear c2
        try clear p2
        try clear c4
        try clear c4b0
        try clear c4b1
        try clear c5
        try clear c5b0
        try clear c6
        try clear c6b0
        try clear c6b1
        try clear c9
        try clear c9b0
        try clear c9b1
        try clear c11
        try clear c11b0
        try clear c14
        try clear c14b0
        try clear c14b1
        try clear c16
        try clear c16b0
        try clear c18
        try clear c18b0
        try clear c18b1
        try clear c19
        try clear c21
        try clear c21b0
        try clear c21b1
        try clear c22
        try clear c23
        try clear c23b0
        try clear c24
        try clear c24b0
        try clear c24b1
        try clear c26
        try clear c26b0
        try clear c26b1
        try clear p2
        obtain⟨kq,x113_24,rfl,HA,HJ24,⟨mc24,rfl⟩⟩:=hcut
        cases kq with
        | zero=>exact absurd HA.out (by simp[bits_Div64.j4])
        | succ kj24=>
         have H:=HA.out
         clear HA
         simp only[bits_Div64.j4]at H
         by_cases c27:x113_24=true
         ·subst c27
          have H1:(if(IntKind.u64.wrap (x16_2+((ji10)/4294967296)))≥4294967296 then(if 0≤ji8 then(some (IntKind.u64.wrap ((IntKind.u64.wrap (x15_18*4294967296))+(IntKind.u64.wrap (x18_2-1))),shr .u64 (IntKind.u64.wrap ((IntKind.u64.wrap ((IntKind.u64.wrap ((IntKind.u64.wrap ((IntKind.u64.wrap ((IntKind.u64.wrap ((Go.bits .or .u64 (ji12) (ji15))*4294967296))+((ji17)/4294967296)))-(IntKind.u64.wrap (x15_18*ji10))))*4294967296))+(Go.bits .and .u64 (ji17) 4294967295)))-(IntKind.u64.wrap ((IntKind.u64.wrap (x18_2-1))*ji10)))) ji8)) else(none)) else(bits_Div64.l1 kj24 ji10 ji8 ((ji10)/4294967296) (Go.bits .and .u64 (ji10) 4294967295) (Go.bits .and .u64 (ji17) 4294967295) x15_18 (IntKind.u64.wrap (x16_2+((ji10)/4294967296))) (IntKind.u64.wrap ((IntKind.u64.wrap ((IntKind.u64.wrap ((Go.bits .or .u64 (ji12) (ji15))*4294967296))+((ji17)/4294967296)))-(IntKind.u64.wrap (x15_18*ji10)))) (IntKind.u64.wrap (x18_2-1))))=some (r1,r2):=by rw[if_pos rfl]at H;exact H
          clear H
          have H:=H1
          clear H1
          by_cases c28:(IntKind.u64.wrap (x16_2+((ji10)/4294967296)))≥4294967296
          ·rw[if_pos c28]at H
           have c28b0:decide (4294967296≤(IntKind.u64.wrap (x16_2+((ji10)/4294967296))))=true:=decide_eq_true c28
           clear c28
           by_cases c29:0≤ji8
           ·rw[if_pos c29]at H
            have c29b0:=eq_true c29
            have c29b1:decide (0≤ji8)=true:=decide_eq_true c29
            clear c29
            obtain⟨ji30,hji30⟩:∃j_:Int,(shr .u64 (IntKind.u64.wrap ((IntKind.u64.wrap ((IntKind.u64.wrap ((IntKind.u64.wrap ((IntKind.u64.wrap ((IntKind.u64.wrap ((Go.bits .or .u64 (ji12) (ji15))*4294967296))+((ji17)/4294967296)))-(IntKind.u64.wrap (x15_18*ji10))))*4294967296))+(Go.bits .and .u64 (ji17) 4294967295)))-(IntKind.u64.wrap ((IntKind.u64.wrap (x18_2-1))*ji10)))) ji8)=j_:=⟨_,rfl⟩
            replace H:(some (IntKind.u64.wrap ((IntKind.u64.wrap (x15_18*4294967296))+(IntKind.u64.wrap (x18_2-1))),ji30))=some (r1,r2):=by first|(rw[hji30]at H;exact H)|(simp only[hji30]at H ⊢;exact H)
            have hji30_:((IntKind.u64.wrap ((IntKind.u64.wrap ((IntKind.u64.wrap ((IntKind.u64.wrap ((IntKind.u64.wrap ((IntKind.u64.wrap ((Go.bits .or .u64 (ji12) (ji15))*4294967296))+((ji17)/4294967296)))-(IntKind.u64.wrap (x15_18*ji10))))*4294967296))+(Go.bits .and .u64 (ji17) 4294967295)))-(IntKind.u64.wrap ((IntKind.u64.wrap (x18_2-1))*ji10))))/2^min ji8.toNat 64)=ji30:=hji30
            have hji30z:ji8≤64→((IntKind.u64.wrap ((IntKind.u64.wrap ((IntKind.u64.wrap ((IntKind.u64.wrap ((IntKind.u64.wrap ((IntKind.u64.wrap ((Go.bits .or .u64 (ji12) (ji15))*4294967296))+((ji17)/4294967296)))-(IntKind.u64.wrap (x15_18*ji10))))*4294967296))+(Go.bits .and .u64 (ji17) 4294967295)))-(IntKind.u64.wrap ((IntKind.u64.wrap (x18_2-1))*ji10))))/2^ji8.toNat)=ji30:=shr_small hji30
            simp only[Option.some.injEq,Prod.mk.injEq]at H
            obtain⟨rfl,rfl⟩:=H
            go_wp2
            repeat (go_quiet (fail);try go_wp2)
            go_ret2
            exact⟨by first|rfl|(simp;done)|(simp only[←hji8,←hji10,←hji12,←hji13,←hji15,←hji17,←hji30]<;>(first|rfl|simp))|(simp[*];done),by repeat (first|exact Drawn0.refl _|apply Drawn0.step)⟩
           rw[if_neg c29]at H
           exact absurd H (by simp)
          rw[if_neg c28]at H
          have c28b0:decide (4294967296≤(IntKind.u64.wrap (x16_2+((ji10)/4294967296))))=false:=decide_eq_false c28
          clear c28
          have H':=Aside0.mk H
          clear H
          go_wp2
          repeat (go_quiet (fail);try go_wp2)
          go_roundg kj24
          case measure=>have:=HJ18.out;have:=HK2.out;have:=HJ24.out;omega
          case rel=>exact⟨(IntKind.u64.wrap (x16_2+((ji10)/4294967296))),(IntKind.u64.wrap (x18_2-1)),(by first|rfl|(simp;done)|(simp only[←hji10]<;>(first|rfl|simp))|(simp[*];done)),(by first|rfl|(simp;done)|(simp[*];done)),H',⟨by have:=HJ18.out;have:=HK2.out;have:=HJ24.out;omega⟩,by repeat (first|exact Drawn0.refl _|apply Drawn0.step)⟩
         replace c27:=Bool.eq_false_iff.mpr c27
         subst c27
         have H1:(if 0≤ji8 then(some (IntKind.u64.wrap ((IntKind.u64.wrap (x15_18*4294967296))+x18_2),shr .u64 (IntKind.u64.wrap ((IntKind.u64.wrap ((IntKind.u64.wrap ((IntKind.u64.wrap ((IntKind.u64.wrap ((IntKind.u64.wrap ((Go.bits .or .u64 (ji12) (ji15))*4294967296))+((ji17)/4294967296)))-(IntKind.u64.wrap (x15_18*ji10))))*4294967296))+(Go.bits .and .u64 (ji17) 4294967295)))-(IntKind.u64.wrap (x18_2*ji10)))) ji8)) else(none))=some (r1,r2):=by rw[if_neg (show ¬(false=true) by decide)]at H;exact H
         clear H
         have H:=H1
         clear H1
         by_cases c31:0≤ji8
         ·rw[if_pos c31]at H
          have c31b0:=eq_true c31
          have c31b1:decide (0≤ji8)=true:=decide_eq_true c31
          clear c31
          obtain⟨ji32,hji32⟩:∃j_:Int,(shr .u64 (IntKind.u64.wrap ((IntKind.u64.wrap ((IntKind.u64.wrap ((IntKind.u64.wrap ((IntKind.u64.wrap ((IntKind.u64.wrap ((Go.bits .or .u64 (ji12) (ji15))*4294967296))+((ji17)/4294967296)))-(IntKind.u64.wrap (x15_18*ji10))))*4294967296))+(Go.bits .and .u64 (ji17) 4294967295)))-(IntKind.u64.wrap (x18_2*ji10)))) ji8)=j_:=⟨_,rfl⟩
          replace H:(some (IntKind.u64.wrap ((IntKind.u64.wrap (x15_18*4294967296))+x18_2),ji32))=some (r1,r2):=by first|(rw[hji32]at H;exact H)|(simp only[hji32]at H ⊢;exact H)
          have hji32_:((IntKind.u64.wrap ((IntKind.u64.wrap ((IntKind.u64.wrap ((IntKind.u64.wrap ((IntKind.u64.wrap ((IntKind.u64.wrap ((Go.bits .or .u64 (ji12) (ji15))*4294967296))+((ji17)/4294967296)))-(IntKind.u64.wrap (x15_18*ji10))))*4294967296))+(Go.bits .and .u64 (ji17) 4294967295)))-(IntKind.u64.wrap (x18_2*ji10))))/2^min ji8.toNat 64)=ji32:=hji32
          have hji32z:ji8≤64→((IntKind.u64.wrap ((IntKind.u64.wrap ((IntKind.u64.wrap ((IntKind.u64.wrap ((IntKind.u64.wrap ((IntKind.u64.wrap ((Go.bits .or .u64 (ji12) (ji15))*4294967296))+((ji17)/4294967296)))-(IntKind.u64.wrap (x15_18*ji10))))*4294967296))+(Go.bits .and .u64 (ji17) 4294967295)))-(IntKind.u64.wrap (x18_2*ji10))))/2^ji8.toNat)=ji32:=shr_small hji32
          simp only[Option.some.injEq,Prod.mk.injEq]at H
          obtain⟨rfl,rfl⟩:=H
          go_wp2
          repeat (go_quiet (fail);try go_wp2)
          go_ret2
          exact⟨by first|rfl|(simp;done)|(simp only[←hji8,←hji10,←hji12,←hji13,←hji15,←hji17,←hji32]<;>(first|rfl|simp))|(simp[*];done),by repeat (first|exact Drawn0.refl _|apply Drawn0.step)⟩
         rw[if_neg c31]at H
         exact absurd H (by simp)
  rw[if_neg c14]at H
  exact absurd H (by simp)
 rw[if_neg c9]at H
 exact absurd H (by simp)
end Go.Proofs.YtikencoikigllaaGreatDoor.PRy
namespace Go.Proofs.YtikencoikigllaaGreatDoor.PRy
open Go.RowKit Go.Proofs.YtikencoikigllaaGreatDoorW.PrintWords Go.Proofs.YtikencoikigllaaGreatDoorW.PrintLast Go.Proofs.YtikencoikigllaaGreatDoorW.PrintMore
open Go.Proofs.YtikencoikigllaaGreatDoor.Mine
attribute [local go_sem] max2_int min2_int max_two min_two max_three min_three max_four min_four
def whole_amount_byLimb.l0:Nat→List Int→Int→List Int→Int→Int→Option (List Int×Int)
 | 0,_,_,_,_,_=>none
 | k+1,x0,x1,x6,x7,x8=>if x8≥0 then(if 0≤x8 then(if x8<(x0.length:Int) then((bits_Div64.f k x7 (rd x0 x8) x1).bind fun bt170=>(if x8<(x6.length:Int) then(whole_amount_byLimb.l0 k x0 x1 (x6.set (x8:Int).toNat bt170.1) bt170.2 (wrap64 (x8-1))) else(none))) else(none)) else(none)) else((whole_trimmed.f k x6).bind fun t173=>(some (t173,x7)))
def whole_amount_byLimb.f (k:Nat) (l0:List Int) (a1:Int):Option (List Int×Int):=if 0≤(l0.length:Int) then(if((l0.length:Int):Int).toNat≤35184372088832 then(whole_amount_byLimb.l0 k l0 a1 (List.replicate ((l0.length:Int):Int).toNat 0) 0 (wrap64 ((l0.length:Int)-1))) else(none)) else(none)
theorem whole_amount_byLimb.calls (k:Nat) (A0:Option Addr) (c0:Nat) (l0:List Int) (a1:Int) (r1:List Int) (r2:Int) (w:World) (hr0:Kd.C (Kd.int .u64) w A0 l0.length l0) (hc0:l0.length≤c0) (h:whole_amount_byLimb.f k l0 a1=some (r1,r2)) :
  Calls Tryz.prog 55 #[.slice A0 l0.length c0,.int .u64 a1] w fun e w'=>∃v0_:Value,e=.returned (.tuple #[v0_,.int .u64 r2])∧Kd.V (Kd.int .u64) 72 w' w.heap.size (fun k_=>(w.heap.size≤k_)) v0_ r1∧Below w.heap.size w w':=by
 have HR0:=Aside0.mk hr0
 have HC0:=Aside0.mk hc0
 clear hr0 hc0
 have HB:=Aside0.mk (Below.refl w.heap.size w)
 have H:(if 0≤(l0.length:Int) then(if((l0.length:Int):Int).toNat≤35184372088832 then(whole_amount_byLimb.l0 k l0 a1 (List.replicate ((l0.length:Int):Int).toNat 0) 0 (wrap64 ((l0.length:Int)-1))) else(none)) else(none))=some (r1,r2):=h
 clear h
 by_cases c3:0≤(l0.length:Int)
 ·rw [if_pos c3]at H
  have c3b0:=eq_true c3
  have c3b1:decide (0≤(l0.length:Int))=true:=decide_eq_true c3
  clear c3
  by_cases c4:((l0.length:Int):Int).toNat≤35184372088832
  ·rw [if_pos c4]at H
   have c4b0:=eq_true c4
   have c4b1:decide (((l0.length:Int):Int).toNat≤35184372088832)=true:=decide_eq_true c4
   clear c4
   obtain⟨y166,hy166⟩:∃y_:List Int,y_=(List.replicate ((l0.length:Int):Int).toNat 0):=⟨_,rfl⟩
   replace H:(whole_amount_byLimb.l0 k l0 a1 y166 0 (wrap64 ((l0.length:Int)-1)))=some (r1,r2):=by first|(rw[hy166];with_reducible exact H)|(have H2_:=(Option.bind_some _ _).symm.trans H;rw[hy166];with_reducible exact H2_)|(have H2_:=(Option.bind_some _ _).symm.trans H;with_reducible exact H2_)|with_reducible exact H|(rw[hy166];exact H)|exact H
   have Ny166:=Aside0.mk hy166
   clear hy166
   have H':=Aside0.mk H
   clear H
   go_enter Tryz.func55,Tryz.ntmps55
   go_wp2_with (first|(refine gd 11 rfl ?_;refine Kd.R_make (Kd.int .u64) _ 72 rfl (N:=11) rfl 23 _ _ rfl (l0.length:Int) rfl rfl Tryz.underlying23 (.int .u64 0) 8 info72 rfl (by decide) (by omega) 0 (ok:=fun _=>True) (okp:=fun _=>True) rfl (fun _ hk=>hk) trivial (of_decide_eq_true ‹_›) (Nat.le_trans (Nat.mul_le_mul_right _ (of_decide_eq_true ‹_›:(l0.length:Int).toNat≤35184372088832)) (by omega)) (Below.refl _ _) (Nat.le_refl _) ?_;intro v167 w5 ho6 hb hg_ hnew_;clear hg_ hnew_;(first|rw[←Ny166.out]at ho6|(simp only[Int.reduceToNat]at ho6;rw[←Ny166.out]at ho6));have HO168:=Aside0.mk (Kd.R_lower (Kd.R_newM (M:=fun k_=>(w.heap.size≤k_)) ho6 (below_size (khu HB.out)) (fun k_ h_=>h_)) (below_size (khu HB.out)));replace HB:=kbs HB hb;clear hb ho6))
   go_loopg [7,8] k (fun kq v7 v8 w'=>∃(x6_1:List Int) (x7_1:Int) (x8_1:Int),v7=.int .u64 x7_1∧v8=.int .i64 x8_1∧Aside0 (whole_amount_byLimb.l0 kq l0 a1 x6_1 x7_1 x8_1=some (r1,r2))∧Aside0 (kq≤k)∧Aside0 (Kd.R (Kd.int .u64) 72 w' w.heap.size (fun k_=>(w.heap.size≤k_)) v167 x6_1)∧Aside0 (Below w.heap.size w w'))
   case atStart=>exact⟨(y166),(0),(wrap64 ((l0.length:Int)-1)),(by first|rfl|(simp;done)|(simp[*];done)),(by first|rfl|(simp;done)|(simp[*];done)),H',⟨Nat.le_refl _⟩,⟨by(with_reducible repeat (first|apply Kd.R_alloc|apply Kd.R_drewN|apply Kd.R_drew));exact Kd.R_mono HO168.out (fun _ hk=>hk.1)⟩,⟨khu HB.out⟩⟩
   case round=>
    clear H'
    try clear p2
    try clear c3
    try clear c3b0
    try clear c3b1
    try clear c4
    try clear c4b0
    try clear c4b1
    try clear c5
    try clear p6
    obtain⟨x6_1,x7_1,x8_1,rfl,rfl,HA,HK1,HO_6,HB⟩:=hrel
    cases gk with
    | zero=>exact absurd HA.out (by simp[whole_amount_byLimb.l0])
    | succ k1=>
     have H:=HA.out
     clear HA
     simp only[whole_amount_byLimb.l0]at H
     by_cases c7:x8_1≥0
     ·rw [if_pos c7]at H
      have c7b0:decide (0≤x8_1)=true:=decide_eq_true c7
      clear c7
      by_cases c8:0≤x8_1
      ·rw[if_pos c8]at H
       have c8b0:decide (0≤x8_1)=true:=decide_eq_true c8
       clear c8
       by_cases c9:x8_1<(l0.length:Int)
       ·rw[if_pos c9]at H
        have c9b0:decide (x8_1<(l0.length:Int))=true:=decide_eq_true c9
        clear c9
        replace H:=Option.bind_eq_some_iff.mp H
        obtain⟨⟨t170,t171⟩,A100,H⟩:=H
        replace H:(if x8_1<(x6_1.length:Int) then(whole_amount_byLimb.l0 k1 l0 a1 (x6_1.set (x8_1:Int).toNat t170) t171 (wrap64 (x8_1-1))) else(none))=some (r1,r2):=H
        have A10:=Aside0.mk A100
        clear A100
        by_cases c11:x8_1<(x6_1.length:Int)
        ·rw[if_pos c11]at H
         have c11b0:decide (x8_1<(x6_1.length:Int))=true:=decide_eq_true c11
         clear c11
         obtain⟨y172,hy172⟩:∃y_:List Int,y_=(x6_1.set (x8_1:Int).toNat t170):=⟨_,rfl⟩
         replace H:(whole_amount_byLimb.l0 k1 l0 a1 y172 t171 (wrap64 (x8_1-1)))=some (r1,r2):=by first|(rw[hy172];with_reducible exact H)|(have H2_:=(Option.bind_some _ _).symm.trans H;rw[hy172];with_reducible exact H2_)|(have H2_:=(Option.bind_some _ _).symm.trans H;with_reducible exact H2_)|with_reducible exact H|(rw[hy172];exact H)|exact H
         have Ny172:=Aside0.mk hy172
         clear hy172
         have H':=Aside0.mk H
         clear H
         have p169:0≤(x8_1:Int):=of_decide_eq_true ‹_›
         have q169:x8_1<(l0.length:Int):=of_decide_eq_true ‹_›
         obtain⟨ad169,e169,hx169_0⟩:=Kd.at_int HR0.out x8_1 p169 q169
         cases e169
         replace hx169_0:=(HB.out.cell (World.block_lt_of_cell? w _ hx169_0)).trans hx169_0
         replace p169:=eq_true p169
         replace q169:=eq_true q169
         go_wp2_with (first|((with_reducible refine gate_callee (f:=119) rfl ?_);refine kgl (some 28) rfl rfl Tryz.func119 #[.int .u64 x7_1,.int .u64 (rd l0 x8_1),.int .u64 a1] rfl ?_;(with_reducible refine(bits_Div64.calls k1 x7_1 (rd l0 x8_1) a1 t170 t171 _ A10.out).mono ?_);rintro e w' ⟨rfl,⟨nd,rfl⟩⟩;refine⟨_,rfl,?_⟩;(try(rw[drewN_self wr];generalize hq_:World.drewN wr _=wr;have n0_:Aside0 (Kd.R (Kd.int .u64) 72 wr w.heap.size (fun k_=>(w.heap.size≤k_)) v167 x6_1):=⟨by rw[←hq_];exact(kru HO_6.out)⟩;have n1_:Aside0 (Below w.heap.size w wr):=⟨by rw[←hq_];exact(khu HB.out)⟩;clear HO_6 HB hq_;have HO_6:=n0_;have HB:=n1_;clear n0_ n1_));have p12:0≤(x8_1:Int):=of_decide_eq_true ‹_›;have q12:(x8_1:Int)<((x6_1.length:Int):Int):=of_decide_eq_true ‹_›;obtain⟨go12,co12,eo12,gb12,gl12,cl12,HG12⟩:=Kd.R_form HO_6.out (by omega);(first|cases eo12|(injection eo12 with ea_ en_ ec_;(first|subst ea_|(injection ea_ with ea_;subst ea_));subst ec_;clear en_));have GB12:=Aside0.mk gb12;have GG12:=Aside0.mk HG12;clear gb12 gl12 HG12;obtain⟨hx12_0,hf12_0⟩:=Kd.R_celln 0 HO_6.out (x8_1:Int) p12 q12;replace p12:=eq_true p12;replace q12:=eq_true q12;obtain⟨hy13_,hz13_⟩:=Kd.R_celln 0 HO_6.out (x8_1:Int) (of_decide_eq_true ‹_›) (of_decide_eq_true ‹_›);have HP13:=Kd.R_putg HO_6.out (x8_1:Int) t170)|((with_reducible refine gate_store (t:=72) (p:=31) rfl ?_);refine store_event (t:=72) (p:=31) (v:=?vo_w14) (w1:=(wr.setCell ⟨go12,(x8_1:Int).toNat,none⟩ (.int .u64 t170))) ?hg ?ho ?hn ?hr ?_;(case ho=>rfl);(case hg=>rfl);(case hn=>rfl);(case hr=>first|(go_simp;done)|(go_simp;rfl));intro w14 hw;have hg:wr.grownBy w14 (some go12):=(by rw[hw];exact HP13.2);have hp_:Kd.R (Kd.int .u64) 72 w14 w.heap.size (fun k_=>(w.heap.size≤k_)) (.slice (some ⟨go12,0,none⟩) x6_1.length co12) y172:=(by rw[hw,Ny172.out];exact HP13.1);clear HP13;replace HO_6:=Aside0.mk (hp_);replace HB:=Aside0.mk ((by rw[hw];exact below_set (HB.out) GB12.out:Below w.heap.size w w14));clear hg hw hp_))
         go_roundg k1
         case measure=>have:=HK1.out;omega
         case rel=>exact⟨(y172),(t171),(wrap64 (x8_1-1)),(by first|rfl|(simp;done)|(simp[*];done)),(by first|rfl|(simp;done)|(simp[*];done)),H',⟨by have:=HK1.out;omega⟩,⟨kru HO_6.out⟩,⟨khu HB.out⟩⟩
        rw[if_neg c11]at H
        exact absurd H (by simp)
       rw[if_neg c9]at H
       exact absurd H (by simp)
      rw[if_neg c8]at H
      exact absurd H (by simp)
     rw[if_neg c7]at H
     have c7b0:decide (0≤x8_1)=false:=decide_eq_false c7
     clear c7
     replace H:=Option.bind_eq_some_iff.mp H
     obtain⟨t173,A150,H⟩:=H
     replace H:(some (t173,x7_1))=some (r1,r2):=H
     have A15:=Aside0.mk A150
     clear A150
     simp only[Option.some.injEq,Prod.mk.injEq]at H
     obtain⟨rfl,rfl⟩:=H
     obtain⟨Ao16,co16,eo16⟩:=Kd.R_slice HO_6.out
     subst eo16
     go_wp2_with (first|((with_reducible refine gate_callee (f:=46) rfl ?_);refine kgl (some 33) rfl rfl Tryz.func46 #[.slice Ao16 x6_1.length co16] rfl ?_;(with_reducible refine(whole_trimmed.calls k1 (fun k_=>some k_=(.slice Ao16 x6_1.length co16:Value).ownBlock) _ _ x6_1 t173 _ ?side1 A15.out).mono ?_);(case side1=>exact Kd.R_V (Kd.R_tight rfl (HO_6.out)));rintro e w17 ⟨v174,rfl,ho0,hb⟩;refine⟨_,rfl,?_⟩;have HO175:=Aside0.mk (Kd.V_lower (Kd.V_mono (ok':=fun k_=>(w.heap.size≤k_)) ho0 (fun k_ hk_=>Or.elim hk_ (fun hs_=>((HO_6.out).1 k_ hs_.symm)) (fun hn_=>(Nat.le_trans (below_size (khu HB.out)) hn_)))) (below_size (khu HB.out)));replace HO_6:=krb HO_6 hb;replace HB:=kbs HB hb;(try clear hb);(try clear hb2);(try clear hk);(try clear hi);(try clear ho0)))
     go_ret2
     exact⟨_,by first|rfl|(simp[*,errW_none,errW_some]<;>rfl),kvu HO175.out,khu HB.out⟩
  rw[if_neg c4]at H
  exact absurd H (by simp)
 rw[if_neg c3]at H
 exact absurd H (by simp)
def bits_Mul64.f (a0:Int) (a1:Int):Option (Int×Int):=some (IntKind.u64.wrap ((IntKind.u64.wrap ((IntKind.u64.wrap ((a0/4294967296)*(a1/4294967296)))+((IntKind.u64.wrap ((IntKind.u64.wrap ((a0/4294967296)*(Go.bits .and .u64 a1 4294967295)))+((IntKind.u64.wrap ((Go.bits .and .u64 a0 4294967295)*(Go.bits .and .u64 a1 4294967295)))/4294967296)))/4294967296)))+((IntKind.u64.wrap ((Go.bits .and .u64 (IntKind.u64.wrap ((IntKind.u64.wrap ((a0/4294967296)*(Go.bits .and .u64 a1 4294967295)))+((IntKind.u64.wrap ((Go.bits .and .u64 a0 4294967295)*(Go.bits .and .u64 a1 4294967295)))/4294967296))) 4294967295)+(IntKind.u64.wrap ((Go.bits .and .u64 a0 4294967295)*(a1/4294967296)))))/4294967296)),IntKind.u64.wrap (a0*a1))
theorem bits_Mul64.calls (a0:Int) (a1:Int) (r1:Int) (r2:Int) (w:World) (h:bits_Mul64.f a0 a1=some (r1,r2)) :
  Calls Tryz.prog 113 #[.int .u64 a0,.int .u64 a1] w fun e w'=>e=.returned (.tuple #[.int .u64 r1,.int .u64 r2])∧Drawn0 w w':=by
 have H:(some (IntKind.u64.wrap ((IntKind.u64.wrap ((IntKind.u64.wrap ((a0/4294967296)*(a1/4294967296)))+((IntKind.u64.wrap ((IntKind.u64.wrap ((a0/4294967296)*(Go.bits .and .u64 a1 4294967295)))+((IntKind.u64.wrap ((Go.bits .and .u64 a0 4294967295)*(Go.bits .and .u64 a1 4294967295)))/4294967296)))/4294967296)))+((IntKind.u64.wrap ((Go.bits .and .u64 (IntKind.u64.wrap ((IntKind.u64.wrap ((a0/4294967296)*(Go.bits .and .u64 a1 4294967295)))+((IntKind.u64.wrap ((Go.bits .and .u64 a0 4294967295)*(Go.bits .and .u64 a1 4294967295)))/4294967296))) 4294967295)+(IntKind.u64.wrap ((Go.bits .and .u64 a0 4294967295)*(a1/4294967296)))))/4294967296)),IntKind.u64.wrap (a0*a1)))=some (r1,r2):=h
 clear h
 simp only[Option.some.injEq,Prod.mk.injEq]at H
 obtain⟨rfl,rfl⟩:=H
 go_enter Tryz.func113,Tryz.ntmps113
 go_wp2
 go_ret2
 exact⟨by first|rfl|(simp;done)|(simp[*];done),by repeat (first|exact Drawn0.refl _|apply Drawn0.step)⟩
def whole_amount_up.l0:Nat→Int→List Int→List Int→Int→Int→Option (List Int)
 | 0,_,_,_,_,_=>none
 | k+1,x1,x5,x12,x13,x14=>if x14<x13 then(if 0≤x14 then(if x14<(x12.length:Int) then(if x14<(x5.length:Int) then(if 0≤x1 then((some (x5.set (x14:Int).toNat (Go.bits .or .u64 (rd x5 x14) (shl .u64 (rd x12 x14) x1)):List Int)).bind fun y181=>(if x1>0 then(if 0≤(IntKind.u64.wrap (64-x1)) then(if 0≤(wrap64 (x14+1)) then(if(wrap64 (x14+1))<(x5.length:Int) then(whole_amount_up.l0 k x1 (y181.set ((wrap64 (x14+1)):Int).toNat (shr .u64 (rd x12 x14) (IntKind.u64.wrap (64-x1)))) x12 x13 (wrap64 (x14+1))) else(none)) else(none)) else(none)) else(whole_amount_up.l0 k x1 y181 x12 x13 (wrap64 (x14+1))))) else(none)) else(none)) else(none)) else(none)) else(some x5)
def whole_amount_up.f (k:Nat) (l0:List Int) (a1:Int):Option (List Int):=if 0≤(wrap64 ((l0.length:Int)+1)) then(if(wrap64 ((l0.length:Int)+1):Int).toNat≤35184372088832 then(whole_amount_up.l0 k a1 (List.replicate (wrap64 ((l0.length:Int)+1):Int).toNat 0) l0 (l0.length:Int) 0) else(none)) else(none)
theorem whole_amount_up.mono_l:∀k,(∀y0 y1 y2 y3 y4,LeO (whole_amount_up.l0 k y0 y1 y2 y3 y4) (whole_amount_up.l0 (k+1) y0 y1 y2 y3 y4))
 | 0=>fun _ _ _ _ _ r h=>by simp[whole_amount_up.l0]at h
 | k+1=>by
  have ih0:=whole_amount_up.mono_l k
  intro y0 y1 y2 y3 y4
  unfold whole_amount_up.l0
  repeat' first
  | (with_reducible first|exact ih0 _ _ _ _ _|exact LeO.refl _|exact LeO.none _|refine LeO.ite ?_ ?_|refine LeO.bind ?_ (fun _=>?_))
  | exact ih0 _ _ _ _ _
  | exact LeO.none _
  | refine LeO.ite ?_ ?_
  | refine LeO.bind ?_ (fun _=>?_)
theorem whole_amount_up.mono:∀a0 a1 k,LeO (whole_amount_up.f k a0 a1) (whole_amount_up.f (k+1) a0 a1):=by
 intro a0 a1 k
 have ih0:=whole_amount_up.mono_l k
 unfold whole_amount_up.f
 repeat' first
   | (with_reducible first|exact ih0 _ _ _ _ _|exact LeO.refl _|exact LeO.none _|refine LeO.ite ?_ ?_|refine LeO.bind ?_ (fun _=>?_))
   | exact ih0 _ _ _ _ _
   | exact LeO.none _
   | refine LeO.ite ?_ ?_
   | refine LeO.bind ?_ (fun _=>?_)
theorem whole_amount_up.calls (k:Nat) (A0:Option Addr) (c0:Nat) (l0:List Int) (a1:Int) (r:List Int) (w:World) (hr0:Kd.C (Kd.int .u64) w A0 l0.length l0) (hc0:l0.length≤c0) (h:whole_amount_up.f k l0 a1=some r) :
  Calls Tryz.prog 225 #[.slice A0 l0.length c0,.int .u64 a1] w fun e w'=>∃v0_:Value,e=.returned (v0_)∧Kd.R (Kd.int .u64) 72 w' w.heap.size (fun _=>True) v0_ r∧Below w.heap.size w w':=by
 have HR0:=Aside0.mk hr0
 have HC0:=Aside0.mk hc0
 clear hr0 hc0
 have HB:=Aside0.mk (Below.refl w.heap.size w)
 have H:(if 0≤(wrap64 ((l0.length:Int)+1)) then(if(wrap64 ((l0.length:Int)+1):Int).toNat≤35184372088832 then(whole_amount_up.l0 k a1 (List.replicate (wrap64 ((l0.length:Int)+1):Int).toNat 0) l0 (l0.length:Int) 0) else(none)) else(none))=some r:=h
 clear h
 obtain⟨ji3,hji3⟩:∃j_:Int,(wrap64 ((l0.length:Int)+1))=j_:=⟨_,rfl⟩
 replace H:(if 0≤(ji3) then(if(ji3:Int).toNat≤35184372088832 then(whole_amount_up.l0 k a1 (List.replicate (ji3:Int).toNat 0) l0 (l0.length:Int) 0) else(none)) else(none))=some r:=by first|(rw[hji3]at H;exact H)|(simp only[hji3]at H ⊢;exact H)
 have hji3w:(IntKind.i64.wrap ((l0.length:Int)+1))=ji3:=(i64_w _).trans hji3
 by_cases c4:0≤(ji3)
 ·rw [if_pos c4]at H
  have c4b0:=eq_true c4
  have c4b1:decide (0≤(ji3))=true:=decide_eq_true c4
  clear c4
  by_cases c5:(ji3:Int).toNat≤35184372088832
  ·rw [if_pos c5]at H
   have c5b0:=eq_true c5
   have c5b1:decide ((ji3:Int).toNat≤35184372088832)=true:=decide_eq_true c5
   clear c5
   obtain⟨y176,hy176⟩:∃y_:List Int,y_=(List.replicate (ji3:Int).toNat 0):=⟨_,rfl⟩
   replace H:(whole_amount_up.l0 k a1 y176 l0 (l0.length:Int) 0)=some r:=by first|(rw[hy176];with_reducible exact H)|(have H2_:=(Option.bind_some _ _).symm.trans H;rw[hy176];with_reducible exact H2_)|(have H2_:=(Option.bind_some _ _).symm.trans H;with_reducible exact H2_)|with_reducible exact H|(rw[hy176];exact H)|exact H
   have Ny176:=Aside0.mk hy176
   clear hy176
   have H':=Aside0.mk H
   clear H
   go_enter Tryz.func225,Tryz.ntmps225
   go_wp2_with (first|(refine gd 11 rfl ?_;refine Kd.R_make (Kd.int .u64) _ 72 rfl (N:=11) rfl 23 _ _ rfl ji3 rfl rfl Tryz.underlying23 (.int .u64 0) 8 info72 rfl (by decide) (by omega) 0 (ok:=fun _=>True) (okp:=fun _=>True) rfl (fun _ hk=>hk) trivial (of_decide_eq_true ‹_›) (Nat.le_trans (Nat.mul_le_mul_right _ (of_decide_eq_true ‹_›:ji3.toNat≤35184372088832)) (by omega)) (Below.refl _ _) (Nat.le_refl _) ?_;intro v177 w6 ho7 hb hg_ hnew_;clear hg_ hnew_;(first|rw[←Ny176.out]at ho7|(simp only[Int.reduceToNat]at ho7;rw[←Ny176.out]at ho7));have HO178:=Aside0.mk (Kd.R_lower ho7 (below_size (khu HB.out)));replace HB:=kbs HB hb;clear hb ho7))
   go_loopg [14] k (fun kq v14 w'=>∃(x5_1:List Int) (x14_1:Int),v14=.int .i64 x14_1∧Aside0 (whole_amount_up.l0 kq a1 x5_1 l0 (l0.length:Int) x14_1=some r)∧Aside0 (kq≤k)∧Aside0 (Kd.R (Kd.int .u64) 72 w' w.heap.size (fun _=>True) v177 x5_1)∧Aside0 (Below w.heap.size w w'))
   case atStart=>exact⟨(y176),(0),(by first|rfl|(simp;done)|(simp[*];done)),H',⟨Nat.le_refl _⟩,⟨kru HO178.out⟩,⟨khu HB.out⟩⟩
   case round =>
    clear H'
    try clear c2
    try clear p2
    try clear c4
    try clear c4b0
    try clear c4b1
    try clear c5
    try clear c5b0
    try clear c5b1
    try clear p6
    obtain⟨x5_1,x14_1,rfl,HA,HK1,HO_5,HB⟩:=hrel
    cases gk with
    | zero=>exact absurd HA.out (by simp[whole_amount_up.l0])
    | succ k1 =>
     have H:=HA.out
     clear HA
     simp only[whole_amount_up.l0]at H
     by_cases c8:x14_1<(l0.length:Int)
     ·rw [if_pos c8]at H
      have c8b0:decide (x14_1<(l0.length:Int))=true:=decide_eq_true c8
      clear c8
      by_cases c9:0≤x14_1
      ·rw [if_pos c9]at H
       have c9b0:decide (0≤x14_1)=true:=decide_eq_true c9
       clear c9
       by_cases c10:x14_1<(l0.length:Int)
       ·rw [if_pos c10]at H
        have c10b0:decide (x14_1<(l0.length:Int))=true:=decide_eq_true c10
        clear c10
        by_cases c11:x14_1<(x5_1.length:Int)
        ·rw [if_pos c11]at H
         have c11b0:decide (x14_1<(x5_1.length:Int))=true:=decide_eq_true c11
         clear c11
         by_cases c12:0≤a1
         ·rw [if_pos c12]at H
          have c12b0:=eq_true c12
          have c12b1:decide (0≤a1)=true:=decide_eq_true c12
          clear c12
          obtain⟨ji13,hji13⟩:∃j_:Int,(shl .u64 (rd l0 x14_1) a1)=j_:=⟨_,rfl⟩
          replace H:((some (x5_1.set (x14_1:Int).toNat (Go.bits .or .u64 (rd x5_1 x14_1) (ji13)):List Int)).bind fun y181=>(if a1>0 then(if 0≤(IntKind.u64.wrap (64-a1)) then(if 0≤(wrap64 (x14_1+1)) then(if(wrap64 (x14_1+1))<(x5_1.length:Int) then(whole_amount_up.l0 k1 a1 (y181.set ((wrap64 (x14_1+1)):Int).toNat (shr .u64 (rd l0 x14_1) (IntKind.u64.wrap (64-a1)))) l0 (l0.length:Int) (wrap64 (x14_1+1))) else(none)) else(none)) else(none)) else(whole_amount_up.l0 k1 a1 y181 l0 (l0.length:Int) (wrap64 (x14_1+1)))))=some r:=by first|(rw[hji13]at H;exact H)|(simp only[hji13]at H ⊢;exact H)
          have hji13_:(IntKind.u64.wrap ((rd l0 x14_1)*2^min a1.toNat 64))=ji13:=hji13
          have hji13z:a1≤64→(IntKind.u64.wrap ((rd l0 x14_1)*2^a1.toNat))=ji13:=shl_small hji13
          obtain⟨y181,hy181⟩:∃y_:List Int,y_=(x5_1.set (x14_1:Int).toNat (Go.bits .or .u64 (rd x5_1 x14_1) (ji13))):=⟨_,rfl⟩
          replace H:(if a1>0 then(if 0≤(IntKind.u64.wrap (64-a1)) then(if 0≤(wrap64 (x14_1+1)) then(if(wrap64 (x14_1+1))<(x5_1.length:Int) then(whole_amount_up.l0 k1 a1 (y181.set ((wrap64 (x14_1+1)):Int).toNat (shr .u64 (rd l0 x14_1) (IntKind.u64.wrap (64-a1)))) l0 (l0.length:Int) (wrap64 (x14_1+1))) else(none)) else(none)) else(none)) else(whole_amount_up.l0 k1 a1 y181 l0 (l0.length:Int) (wrap64 (x14_1+1))))=some r:=by first|(rw[hy181];with_reducible exact H)|(have H2_:=(Option.bind_some _ _).symm.trans H;rw[hy181];with_reducible exact H2_)|(have H2_:=(Option.bind_some _ _).symm.trans H;with_reducible exact H2_)|with_reducible exact H|(rw[hy181];exact H)|exact H
          have Ny181:=Aside0.mk hy181
          clear hy181
          by_cases c15:a1>0
          ·rw [if_pos c15]at H
           have c15b0:decide (0<a1)=true:=decide_eq_true c15
           clear c15
           obtain⟨ji16,hji16⟩:∃j_:Int,(IntKind.u64.wrap (64-a1))=j_:=⟨_,rfl⟩
           replace H:(if 0≤(ji16) then(if 0≤(wrap64 (x14_1+1)) then(if(wrap64 (x14_1+1))<(x5_1.length:Int) then(whole_amount_up.l0 k1 a1 (y181.set ((wrap64 (x14_1+1)):Int).toNat (shr .u64 (rd l0 x14_1) (ji16))) l0 (l0.length:Int) (wrap64 (x14_1+1))) else(none)) else(none)) else(none))=some r:=by first|(rw[hji16]at H;exact H)|(simp only[hji16]at H ⊢;exact H)
           by_cases c17:0≤(ji16)
           ·rw[if_pos c17]at H
            have c17b0:=eq_true c17
            have c17b1:decide (0≤(ji16))=true:=decide_eq_true c17
            clear c17
            obtain⟨ji18,hji18⟩:∃j_:Int,(shr .u64 (rd l0 x14_1) (ji16))=j_:=⟨_,rfl⟩
            replace H:(if 0≤(wrap64 (x14_1+1)) then(if(wrap64 (x14_1+1))<(x5_1.length:Int) then(whole_amount_up.l0 k1 a1 (y181.set ((wrap64 (x14_1+1)):Int).toNat (ji18)) l0 (l0.length:Int) (wrap64 (x14_1+1))) else(none)) else(none))=some r:=by first|(rw[hji18]at H;exact H)|(simp only[hji18]at H ⊢;exact H)
            have hji18_:((rd l0 x14_1)/2^min (ji16).toNat 64)=ji18:=hji18
            have hji18z:(ji16)≤64→((rd l0 x14_1)/2^(ji16).toNat)=ji18:=shr_small hji18
            obtain⟨ji19,hji19⟩:∃j_:Int,(wrap64 (x14_1+1))=j_:=⟨_,rfl⟩
            replace H:(if 0≤(ji19) then(if(ji19)<(x5_1.length:Int) then(whole_amount_up.l0 k1 a1 (y181.set ((ji19):Int).toNat (ji18)) l0 (l0.length:Int) ji19) else(none)) else(none))=some r:=by first|(rw[hji19]at H;exact H)|(simp only[hji19]at H ⊢;exact H)
            have hji19w:(IntKind.i64.wrap (x14_1+1))=ji19:=(i64_w _).trans hji19
            by_cases c20:0≤(ji19)
            ·rw[if_pos c20]at H
             have c20b0:decide (0≤(ji19))=true:=decide_eq_true c20
             clear c20
             by_cases c21:(ji19)<(x5_1.length:Int)
             ·rw[if_pos c21]at H
              have c21b0:decide ((ji19)<(x5_1.length:Int))=true:=decide_eq_true c21
              clear c21
              obtain⟨y182,hy182⟩:∃y_:List Int,y_=(y181.set ((ji19):Int).toNat (ji18)):=⟨_,rfl⟩
              replace H:(whole_amount_up.l0 k1 a1 y182 l0 (l0.length:Int) ji19)=some r:=by first|(rw[hy182];with_reducible exact H)|(have H2_:=(Option.bind_some _ _).symm.trans H;rw[hy182];with_reducible exact H2_)|(have H2_:=(Option.bind_some _ _).symm.trans H;with_reducible exact H2_)|with_reducible exact H|(rw[hy182];exact H)|exact H
              have Ny182:=Aside0.mk hy182
              clear hy182
              have H':=Aside0.mk H
              clear H
              have p179:0≤(x14_1:Int):=of_decide_eq_true ‹_›
              have q179:x14_1<(l0.length:Int):=of_decide_eq_true ‹_›
              obtain⟨ad179,e179,hx179_0⟩:=Kd.at_int HR0.out x14_1 p179 q179
              cases e179
              replace hx179_0:=(HB.out.cell (World.block_lt_of_cell? w _ hx179_0)).trans hx179_0
              replace p179:=eq_true p179
              replace q179:=eq_true q179
              obtain⟨Ao23,co23,eo23⟩:=Kd.R_slice HO_5.out
              subst eo23
              have p180:0≤(x14_1:Int):=of_decide_eq_true ‹_›
              have q180:x14_1<(x5_1.length:Int):=of_decide_eq_true ‹_›
              obtain⟨ad180,e180,hx180_0⟩:=Kd.at_int (Kd.R_reads' HO_5.out).2.2 x14_1 p180 q180
              cases e180
              replace p180:=eq_true p180
              replace q180:=eq_true q180
              have p14:0≤(x14_1:Int):=of_decide_eq_true ‹_›
              have q14:(x14_1:Int)<((x5_1.length:Int):Int):=of_decide_eq_true ‹_›
              obtain⟨go14,co14,eo14,gb14,gl14,cl14,HG14⟩:=Kd.R_form HO_5.out (by omega)
              (first|cases eo14|(injection eo14 with ea_ en_ ec_;(first|subst ea_|(injection ea_ with ea_;subst ea_));subst ec_;clear en_))
              have GB14:=Aside0.mk gb14
              have GG14:=Aside0.mk HG14
              clear gb14 gl14 HG14
              (first|simp only[add_plain]at hx180_0|skip)
              obtain⟨hx14_0,hf14_0⟩:=Kd.R_celln 0 HO_5.out (x14_1:Int) p14 q14
              replace p14:=eq_true p14
              replace q14:=eq_true q14
              have HP24:=Kd.R_putg HO_5.out (x14_1:Int) (Go.bits .or .u64 (rd x5_1 x14_1) (ji13))
              go_wp2_with (first|((with_reducible refine gate_store (t:=72) (p:=27) rfl ?_);refine store_event (t:=72) (p:=27) (v:=?vo_w25) (w1:=(wr.setCell ⟨go14,(x14_1:Int).toNat,none⟩ (.int .u64 (Go.bits .or .u64 (rd x5_1 x14_1) (ji13))))) ?hg ?ho ?hn ?hr ?_;(case ho=>rfl);(case hg=>rfl);(case hn=>rfl);(case hr=>first|(go_simp;done)|(go_simp;rfl));intro w25 hw;have hg:wr.grownBy w25 (some go14):=(by rw[hw];exact HP24.2);have hp_:Kd.R (Kd.int .u64) 72 w25 w.heap.size (fun _=>True) (.slice (some ⟨go14,0,none⟩) x5_1.length co23) y181:=(by rw[hw,Ny181.out];exact HP24.1);clear HP24;replace HO_5:=Aside0.mk (hp_);replace HB:=Aside0.mk ((by rw[hw];exact below_set (HB.out) GB14.out:Below w.heap.size w w25));clear hg hw hp_;have p22:0≤((ji19):Int):=of_decide_eq_true ‹_›;have q22:((ji19):Int)<((x5_1.length:Int):Int):=of_decide_eq_true ‹_›;obtain⟨hx22_0,hf22_0⟩:=Kd.R_celln 0 HO_5.out ((ji19):Int) p22 q22;replace p22:=eq_true p22;replace q22:=eq_true q22;obtain⟨hy26_,hz26_⟩:=Kd.R_celln 0 HO_5.out ((ji19):Int) (of_decide_eq_true ‹_›) (of_decide_eq_true ‹_›);have HP26:=Kd.R_putg HO_5.out ((ji19):Int) ji18)|((with_reducible refine gate_store (t:=72) (p:=37) rfl ?_);refine store_event (t:=72) (p:=37) (v:=?vo_w27) (w1:=(w25.setCell ⟨go14,((ji19):Int).toNat,none⟩ (.int .u64 ji18))) ?hg ?ho ?hn ?hr ?_;(case ho=>rfl);(case hg=>rfl);(case hn=>rfl);(case hr=>first|(go_simp;done)|(go_simp;rfl));intro w27 hw;have hg:w25.grownBy w27 (some go14):=(by rw[hw];exact HP26.2);have hp_:Kd.R (Kd.int .u64) 72 w27 w.heap.size (fun _=>True) (.slice (some ⟨go14,0,none⟩) x5_1.length co23) y182:=(by rw[hw,Ny182.out];exact HP26.1);clear HP26;replace HO_5:=Aside0.mk (hp_);replace HB:=Aside0.mk ((by rw[hw];exact below_set (HB.out) GB14.out:Below w.heap.size w w27));clear hg hw hp_))
              go_roundg k1
              case measure=>have:=HK1.out;omega
              case rel=>exact⟨(y182),(ji19),(by first|rfl|(simp;done)|(simp only[←hji19]<;>(first|rfl|simp))|(simp[*];done)),H',⟨by have:=HK1.out;omega⟩,⟨kru HO_5.out⟩,⟨khu HB.out⟩⟩
             rw[if_neg c21]at H
             exact absurd H (by simp)
            rw[if_neg c20]at H
            exact absurd H (by simp)
           rw[if_neg c17]at H
           exact absurd H (by simp)
          rw[if_neg c15]at H
          have c15b0:decide (0<a1)=false:=decide_eq_false c15
          clear c15
          have H':=Aside0.mk H
          clear H
          have p179:0≤(x14_1:Int):=of_decide_eq_true ‹_›
          have q179:x14_1<(l0.length:Int):=of_decide_eq_true ‹_›
          obtain⟨ad179,e179,hx179_0⟩:=Kd.at_int HR0.out x14_1 p179 q179
          cases e179
          replace hx179_0:=(HB.out.cell (World.block_lt_of_cell? w _ hx179_0)).trans hx179_0
          replace p179:=eq_true p179
          replace q179:=eq_true q179
          obtain⟨Ao28,co28,eo28⟩:=Kd.R_slice HO_5.out
          subst eo28
          have p180:0≤(x14_1:Int):=of_decide_eq_true ‹_›
          have q180:x14_1<(x5_1.length:Int):=of_decide_eq_true ‹_›
          obtain⟨ad180,e180,hx180_0⟩:=Kd.at_int (Kd.R_reads' HO_5.out).2.2 x14_1 p180 q180
          cases e180
          replace p180:=eq_true p180
          replace q180:=eq_true q180
          have p14:0≤(x14_1:Int):=of_decide_eq_true ‹_›
          have q14:(x14_1:Int)<((x5_1.length:Int):Int):=of_decide_eq_true ‹_›
          obtain⟨go14,co14,eo14,gb14,gl14,cl14,HG14⟩:=Kd.R_form HO_5.out (by omega)
          (first|cases eo14|(injection eo14 with ea_ en_ ec_;(first|subst ea_|(injection ea_ with ea_;subst ea_));subst ec_;clear en_))
          have GB14:=Aside0.mk gb14
          have GG14:=Aside0.mk HG14
          clear gb14 gl14 HG14
          (first|simp only[add_plain]at hx180_0|skip)
          obtain⟨hx14_0,hf14_0⟩:=Kd.R_celln 0 HO_5.out (x14_1:Int) p14 q14
          replace p14:=eq_true p14
          replace q14:=eq_true q14
          have HP29:=Kd.R_putg HO_5.out (x14_1:Int) (Go.bits .or .u64 (rd x5_1 x14_1) (ji13))
          go_wp2_with (first|((with_reducible refine gate_store (t:=72) (p:=27) rfl ?_);refine store_event (t:=72) (p:=27) (v:=?vo_w30) (w1:=(wr.setCell ⟨go14,(x14_1:Int).toNat,none⟩ (.int .u64 (Go.bits .or .u64 (rd x5_1 x14_1) (ji13))))) ?hg ?ho ?hn ?hr ?_;(case ho=>rfl);(case hg=>rfl);(case hn=>rfl);(case hr=>first|(go_simp;done)|(go_simp;rfl));intro w30 hw;have hg:wr.grownBy w30 (some go14):=(by rw[hw];exact HP29.2);have hp_:Kd.R (Kd.int .u64) 72 w30 w.heap.size (fun _=>True) (.slice (some ⟨go14,0,none⟩) x5_1.length co28) y181:=(by rw[hw,Ny181.out];exact HP29.1);clear HP29;replace HO_5:=Aside0.mk (hp_);replace HB:=Aside0.mk ((by rw[hw];exact below_set (HB.out) GB14.out:Below w.heap.size w w30));clear hg hw hp_))
          go_roundg k1
          case measure=>have:=HK1.out;omega
          case rel=>exact⟨(y181),(wrap64 (x14_1+1)),(by first|rfl|(simp;done)|(simp[*];done)),H',⟨by have:=HK1.out;omega⟩,⟨kru HO_5.out⟩,⟨khu HB.out⟩⟩
         rw[if_neg c12]at H
         exact absurd H (by simp)
        rw[if_neg c11]at H
        exact absurd H (by simp)
       rw[if_neg c10]at H
       exact absurd H (by simp)
      rw[if_neg c9]at H
      exact absurd H (by simp)
     rw[if_neg c8]at H
     have c8b0:decide (x14_1<(l0.length:Int))=false:=decide_eq_false c8
     clear c8
     obtain rfl:=Option.some.inj H
     go_wp2
     go_ret
     exact⟨_,by first|rfl|(simp[errW_none,errW_some]<;>rfl)|(simp only[←hji3];first|rfl|(simp[errW_none,errW_some]<;>rfl))|(simp[*,errW_none,errW_some]<;>rfl),kru HO_5.out,khu HB.out⟩
  rw[if_neg c5]at H
  exact absurd H (by simp)
 rw[if_neg c4]at H
 exact absurd H (by simp)
def whole_subtract.l0:Nat→List Int→List Int→Int→Int→Int→List Int→Int→Int→Option (Bool×List Int)
 | 0,_,_,_,_,_,_,_,_=>none
 | k+1,x0,x1,x2,x7,x8,x14,x15,x16=>if x16<x15 then(if 0≤x16 then(if x16<(x14.length:Int) then((bits_Mul64.f x2 (rd x14 x16)).bind fun bt184=>((bits_Add64.f bt184.2 x7 0).bind fun bt186=>(if x16<(x0.length:Int) then((bits_Sub64.f (rd x0 x16) bt186.1 x8).bind fun bt189=>(whole_subtract.l0 k (x0.set (x16:Int).toNat bt189.1) x1 x2 (IntKind.u64.wrap (bt184.1+bt186.2)) bt189.2 x14 x15 (wrap64 (x16+1)))) else(none)))) else(none)) else(none)) else(if 0≤(x1.length:Int) then(if(x1.length:Int)<(x0.length:Int) then((bits_Sub64.f (rd x0 (x1.length:Int)) x7 x8).bind fun bt193=>(some ((bt193.2==1),(x0.set ((x1.length:Int):Int).toNat bt193.1)))) else(none)) else(none))
def whole_subtract.f (k:Nat) (l0:List Int) (l1:List Int) (a2:Int):Option (Bool×List Int):=whole_subtract.l0 k l0 l1 a2 0 0 l1 (l1.length:Int) 0
theorem whole_subtract.mono_l:∀k,(∀y0 y1 y2 y3 y4 y5 y6 y7,LeO (whole_subtract.l0 k y0 y1 y2 y3 y4 y5 y6 y7) (whole_subtract.l0 (k+1) y0 y1 y2 y3 y4 y5 y6 y7))
 | 0=>fun _ _ _ _ _ _ _ _ r h=>by simp[whole_subtract.l0]at h
 | k+1=>by
  have ih0:=whole_subtract.mono_l k
  intro y0 y1 y2 y3 y4 y5 y6 y7
  unfold whole_subtract.l0
  repeat' first
  | (with_reducible first|exact ih0 _ _ _ _ _ _ _ _|exact LeO.refl _|exact LeO.none _|refine LeO.ite ?_ ?_|refine LeO.bind ?_ (fun _=>?_))
  | exact ih0 _ _ _ _ _ _ _ _
  | exact LeO.none _
  | refine LeO.ite ?_ ?_
  | refine LeO.bind ?_ (fun _=>?_)
theorem whole_subtract.mono:∀a0 a1 a2 k,LeO (whole_subtract.f k a0 a1 a2) (whole_subtract.f (k+1) a0 a1 a2):=by
 intro a0 a1 a2 k
 have ih0:=whole_subtract.mono_l k
 unfold whole_subtract.f
 repeat' first
   | (with_reducible first|exact ih0 _ _ _ _ _ _ _ _|exact LeO.refl _|exact LeO.none _|refine LeO.ite ?_ ?_|refine LeO.bind ?_ (fun _=>?_))
   | exact ih0 _ _ _ _ _ _ _ _
   | exact LeO.none _
   | refine LeO.ite ?_ ?_
   | refine LeO.bind ?_ (fun _=>?_)
def whole_add.l0:Nat→List Int→List Int→Int→List Int→Int→Int→Option (List Int)
 | 0,_,_,_,_,_,_=>none
 | k+1,x0,x1,x4,x7,x8,x9=>if x9<x8 then(if 0≤x9 then(if x9<(x7.length:Int) then(if x9<(x0.length:Int) then((bits_Add64.f (rd x0 x9) (rd x7 x9) x4).bind fun bt198=>(whole_add.l0 k (x0.set (x9:Int).toNat bt198.1) x1 bt198.2 x7 x8 (wrap64 (x9+1)))) else(none)) else(none)) else(none)) else(if 0≤(x1.length:Int) then(if(x1.length:Int)<(x0.length:Int) then(some (x0.set ((x1.length:Int):Int).toNat (IntKind.u64.wrap ((rd x0 (x1.length:Int))+x4)))) else(none)) else(none))
def whole_add.f (k:Nat) (l0:List Int) (l1:List Int):Option (List Int):=whole_add.l0 k l0 l1 0 l1 (l1.length:Int) 0
theorem whole_add.mono_l:∀k,(∀y0 y1 y2 y3 y4 y5,LeO (whole_add.l0 k y0 y1 y2 y3 y4 y5) (whole_add.l0 (k+1) y0 y1 y2 y3 y4 y5))
 | 0=>fun _ _ _ _ _ _ r h=>by simp[whole_add.l0]at h
 | k+1=>by
  have ih0:=whole_add.mono_l k
  intro y0 y1 y2 y3 y4 y5
  unfold whole_add.l0
  repeat' first
  | (with_reducible first|exact ih0 _ _ _ _ _ _|exact LeO.refl _|exact LeO.none _|refine LeO.ite ?_ ?_|refine LeO.bind ?_ (fun _=>?_))
  | exact ih0 _ _ _ _ _ _
  | exact LeO.none _
  | refine LeO.ite ?_ ?_
  | refine LeO.bind ?_ (fun _=>?_)
theorem whole_add.mono:∀a0 a1 k,LeO (whole_add.f k a0 a1) (whole_add.f (k+1) a0 a1):=by
 intro a0 a1 k
 have ih0:=whole_add.mono_l k
 unfold whole_add.f
 repeat' first
   | (with_reducible first|exact ih0 _ _ _ _ _ _|exact LeO.refl _|exact LeO.none _|refine LeO.ite ?_ ?_|refine LeO.bind ?_ (fun _=>?_))
   | exact ih0 _ _ _ _ _ _
   | exact LeO.none _
   | refine LeO.ite ?_ ?_
   | refine LeO.bind ?_ (fun _=>?_)
def whole_amount_down.l0:Nat→Int→List Int→List Int→Int→Int→Option (List Int)
 | 0,_,_,_,_,_=>none
 | k+1,x1,x5,x11,x12,x13=>if x13<x12 then(if 0≤x13 then(if x13<(x11.length:Int) then(if x13<(x5.length:Int) then(if 0≤x1 then((some (x5.set (x13:Int).toNat (Go.bits .or .u64 (rd x5 x13) (shr .u64 (rd x11 x13) x1)):List Int)).bind fun y208=>(if x1>0 then(if x13>0 then(if 0≤(wrap64 (x13-1)) then(if(wrap64 (x13-1))<(x5.length:Int) then(if 0≤(IntKind.u64.wrap (64-x1)) then(whole_amount_down.l0 k x1 (y208.set ((wrap64 (x13-1)):Int).toNat (Go.bits .or .u64 (rd y208 (wrap64 (x13-1))) (shl .u64 (rd x11 x13) (IntKind.u64.wrap (64-x1))))) x11 x12 (wrap64 (x13+1))) else(none)) else(none)) else(none)) else(whole_amount_down.l0 k x1 y208 x11 x12 (wrap64 (x13+1)))) else(whole_amount_down.l0 k x1 y208 x11 x12 (wrap64 (x13+1))))) else(none)) else(none)) else(none)) else(none)) else((whole_trimmed.f k x5).bind fun t211=>(some t211))
def whole_amount_down.f (k:Nat) (l0:List Int) (a1:Int):Option (List Int):=if 0≤(l0.length:Int) then(if((l0.length:Int):Int).toNat≤35184372088832 then(whole_amount_down.l0 k a1 (List.replicate ((l0.length:Int):Int).toNat 0) l0 (l0.length:Int) 0) else(none)) else(none)
theorem whole_amount_down.calls (k:Nat) (A0:Option Addr) (c0:Nat) (l0:List Int) (a1:Int) (r:List Int) (w:World) (hr0:Kd.C (Kd.int .u64) w A0 l0.length l0) (hc0:l0.length≤c0) (h:whole_amount_down.f k l0 a1=some r) :
  Calls Tryz.prog 228 #[.slice A0 l0.length c0,.int .u64 a1] w fun e w'=>∃v0_:Value,e=.returned (v0_)∧Kd.V (Kd.int .u64) 72 w' w.heap.size (fun k_=>(w.heap.size≤k_)) v0_ r∧Below w.heap.size w w':=by
 have HR0:=Aside0.mk hr0
 have HC0:=Aside0.mk hc0
 clear hr0 hc0
 have HB:=Aside0.mk (Below.refl w.heap.size w)
 have H:(if 0≤(l0.length:Int) then(if((l0.length:Int):Int).toNat≤35184372088832 then(whole_amount_down.l0 k a1 (List.replicate ((l0.length:Int):Int).toNat 0) l0 (l0.length:Int) 0) else(none)) else(none))=some r:=h
 clear h
 by_cases c3:0≤(l0.length:Int)
 ·rw [if_pos c3]at H
  have c3b0:=eq_true c3
  have c3b1:decide (0≤(l0.length:Int))=true:=decide_eq_true c3
  clear c3
  by_cases c4:((l0.length:Int):Int).toNat≤35184372088832
  ·rw [if_pos c4]at H
   have c4b0:=eq_true c4
   have c4b1:decide (((l0.length:Int):Int).toNat≤35184372088832)=true:=decide_eq_true c4
   clear c4
   obtain⟨y203,hy203⟩:∃y_:List Int,y_=(List.replicate ((l0.length:Int):Int).toNat 0):=⟨_,rfl⟩
   replace H:(whole_amount_down.l0 k a1 y203 l0 (l0.length:Int) 0)=some r:=by first|(rw[hy203];with_reducible exact H)|(have H2_:=(Option.bind_some _ _).symm.trans H;rw[hy203];with_reducible exact H2_)|(have H2_:=(Option.bind_some _ _).symm.trans H;with_reducible exact H2_)|with_reducible exact H|(rw[hy203];exact H)|exact H
   have Ny203:=Aside0.mk hy203
   clear hy203
   have H':=Aside0.mk H
   clear H
   go_enter Tryz.func228,Tryz.ntmps228
   go_wp2_with (first|(refine gd 10 rfl ?_;refine Kd.R_make (Kd.int .u64) _ 72 rfl (N:=10) rfl 23 _ _ rfl (l0.length:Int) rfl rfl Tryz.underlying23 (.int .u64 0) 8 info72 rfl (by decide) (by omega) 0 (ok:=fun _=>True) (okp:=fun _=>True) rfl (fun _ hk=>hk) trivial (of_decide_eq_true ‹_›) (Nat.le_trans (Nat.mul_le_mul_right _ (of_decide_eq_true ‹_›:(l0.length:Int).toNat≤35184372088832)) (by omega)) (Below.refl _ _) (Nat.le_refl _) ?_;intro v204 w5 ho6 hb hg_ hnew_;clear hg_ hnew_;(first|rw[←Ny203.out]at ho6|(simp only[Int.reduceToNat]at ho6;rw[←Ny203.out]at ho6));have HO205:=Aside0.mk (Kd.R_lower (Kd.R_newM (M:=fun k_=>(w.heap.size≤k_)) ho6 (below_size (khu HB.out)) (fun k_ h_=>h_)) (below_size (khu HB.out)));replace HB:=kbs HB hb;clear hb ho6))
   go_loopg [13] k (fun kq v13 w'=>∃(x5_1:List Int) (x13_1:Int),v13=.int .i64 x13_1∧Aside0 (whole_amount_down.l0 kq a1 x5_1 l0 (l0.length:Int) x13_1=some r)∧Aside0 (kq≤k)∧Aside0 (Kd.R (Kd.int .u64) 72 w' w.heap.size (fun k_=>(w.heap.size≤k_)) v204 x5_1)∧Aside0 (Below w.heap.size w w'))
   case atStart=>exact⟨(y203),(0),(by first|rfl|(simp;done)|(simp[*];done)),H',⟨Nat.le_refl _⟩,⟨by(with_reducible repeat (first|apply Kd.R_alloc|apply Kd.R_drewN|apply Kd.R_drew));exact Kd.R_mono HO205.out (fun _ hk=>hk.1)⟩,⟨khu HB.out⟩⟩
   case round =>
    clear H'
    try clear c2
    try clear p2
    try clear c3
    try clear c3b0
    try clear c3b1
    try clear c4
    try clear c4b0
    try clear c4b1
    obtain⟨x5_1,x13_1,rfl,HA,HK1,HO_5,HB⟩:=hrel
    cases gk with
    | zero=>exact absurd HA.out (by simp[whole_amount_down.l0])
    | succ k1 =>
     have H:=HA.out
     clear HA
     simp only[whole_amount_down.l0]at H
     by_cases c7:x13_1<(l0.length:Int)
     ·rw [if_pos c7]at H
      have c7b0:decide (x13_1<(l0.length:Int))=true:=decide_eq_true c7
      clear c7
      by_cases c8:0≤x13_1
      ·rw [if_pos c8]at H
       have c8b0:decide (0≤x13_1)=true:=decide_eq_true c8
       clear c8
       by_cases c9:x13_1<(l0.length:Int)
       ·rw [if_pos c9]at H
        have c9b0:decide (x13_1<(l0.length:Int))=true:=decide_eq_true c9
        clear c9
        by_cases c10:x13_1<(x5_1.length:Int)
        ·rw [if_pos c10]at H
         have c10b0:decide (x13_1<(x5_1.length:Int))=true:=decide_eq_true c10
         clear c10
         by_cases c11:0≤a1
         ·rw [if_pos c11]at H
          have c11b0:=eq_true c11
          have c11b1:decide (0≤a1)=true:=decide_eq_true c11
          clear c11
          obtain⟨ji12,hji12⟩:∃j_:Int,(shr .u64 (rd l0 x13_1) a1)=j_:=⟨_,rfl⟩
          replace H:((some (x5_1.set (x13_1:Int).toNat (Go.bits .or .u64 (rd x5_1 x13_1) (ji12)):List Int)).bind fun y208=>(if a1>0 then(if x13_1>0 then(if 0≤(wrap64 (x13_1-1)) then(if(wrap64 (x13_1-1))<(x5_1.length:Int) then(if 0≤(IntKind.u64.wrap (64-a1)) then(whole_amount_down.l0 k1 a1 (y208.set ((wrap64 (x13_1-1)):Int).toNat (Go.bits .or .u64 (rd y208 (wrap64 (x13_1-1))) (shl .u64 (rd l0 x13_1) (IntKind.u64.wrap (64-a1))))) l0 (l0.length:Int) (wrap64 (x13_1+1))) else(none)) else(none)) else(none)) else(whole_amount_down.l0 k1 a1 y208 l0 (l0.length:Int) (wrap64 (x13_1+1)))) else(whole_amount_down.l0 k1 a1 y208 l0 (l0.length:Int) (wrap64 (x13_1+1)))))=some r:=by first|(rw[hji12]at H;exact H)|(simp only[hji12]at H ⊢;exact H)
          have hji12_:((rd l0 x13_1)/2^min a1.toNat 64)=ji12:=hji12
          have hji12z:a1≤64→((rd l0 x13_1)/2^a1.toNat)=ji12:=shr_small hji12
          obtain⟨y208,hy208⟩:∃y_:List Int,y_=(x5_1.set (x13_1:Int).toNat (Go.bits .or .u64 (rd x5_1 x13_1) (ji12))):=⟨_,rfl⟩
          replace H:(if a1>0 then(if x13_1>0 then(if 0≤(wrap64 (x13_1-1)) then(if(wrap64 (x13_1-1))<(x5_1.length:Int) then(if 0≤(IntKind.u64.wrap (64-a1)) then(whole_amount_down.l0 k1 a1 (y208.set ((wrap64 (x13_1-1)):Int).toNat (Go.bits .or .u64 (rd y208 (wrap64 (x13_1-1))) (shl .u64 (rd l0 x13_1) (IntKind.u64.wrap (64-a1))))) l0 (l0.length:Int) (wrap64 (x13_1+1))) else(none)) else(none)) else(none)) else(whole_amount_down.l0 k1 a1 y208 l0 (l0.length:Int) (wrap64 (x13_1+1)))) else(whole_amount_down.l0 k1 a1 y208 l0 (l0.length:Int) (wrap64 (x13_1+1))))=some r:=by first|(rw[hy208];with_reducible exact H)|(have H2_:=(Option.bind_some _ _).symm.trans H;rw[hy208];with_reducible exact H2_)|(have H2_:=(Option.bind_some _ _).symm.trans H;with_reducible exact H2_)|with_reducible exact H|(rw[hy208];exact H)|exact H
          have Ny208:=Aside0.mk hy208
          clear hy208
          by_cases c14:a1>0
          ·rw [if_pos c14]at H
           have c14b0:decide (0<a1)=true:=decide_eq_true c14
           clear c14
           by_cases c15:x13_1>0
           ·rw [if_pos c15]at H
            have c15b0:decide (0<x13_1)=true:=decide_eq_true c15
            clear c15
            obtain⟨ji16,hji16⟩:∃j_:Int,(wrap64 (x13_1-1))=j_:=⟨_,rfl⟩
            replace H:(if 0≤(ji16) then(if(ji16)<(x5_1.length:Int) then(if 0≤(IntKind.u64.wrap (64-a1)) then(whole_amount_down.l0 k1 a1 (y208.set ((ji16):Int).toNat (Go.bits .or .u64 (rd y208 (ji16)) (shl .u64 (rd l0 x13_1) (IntKind.u64.wrap (64-a1))))) l0 (l0.length:Int) (wrap64 (x13_1+1))) else(none)) else(none)) else(none))=some r:=by first|(rw[hji16]at H;exact H)|(simp only[hji16]at H ⊢;exact H)
            have hji16w:(IntKind.i64.wrap (x13_1-1))=ji16:=(i64_w _).trans hji16
            by_cases c17:0≤(ji16)
            ·rw[if_pos c17]at H
             have c17b0:decide (0≤(ji16))=true:=decide_eq_true c17
             clear c17
             by_cases c18:(ji16)<(x5_1.length:Int)
             ·rw[if_pos c18]at H
              have c18b0:decide ((ji16)<(x5_1.length:Int))=true:=decide_eq_true c18
              clear c18
              obtain⟨ji19,hji19⟩:∃j_:Int,(IntKind.u64.wrap (64-a1))=j_:=⟨_,rfl⟩
              replace H:(if 0≤(ji19) then(whole_amount_down.l0 k1 a1 (y208.set ((ji16):Int).toNat (Go.bits .or .u64 (rd y208 (ji16)) (shl .u64 (rd l0 x13_1) (ji19)))) l0 (l0.length:Int) (wrap64 (x13_1+1))) else(none))=some r:=by first|(rw[hji19]at H;exact H)|(simp only[hji19]at H ⊢;exact H)
              by_cases c20:0≤(ji19)
              ·rw[if_pos c20]at H
               have c20b0:=eq_true c20
               have c20b1:decide (0≤(ji19))=true:=decide_eq_true c20
               clear c20
               obtain⟨ji21,hji21⟩:∃j_:Int,(shl .u64 (rd l0 x13_1) (ji19))=j_:=⟨_,rfl⟩
               replace H:(whole_amount_down.l0 k1 a1 (y208.set ((ji16):Int).toNat (Go.bits .or .u64 (rd y208 (ji16)) (ji21))) l0 (l0.length:Int) (wrap64 (x13_1+1)))=some r:=by first|(rw[hji21]at H;exact H)|(simp only[hji21]at H ⊢;exact H)
               have hji21_:(IntKind.u64.wrap ((rd l0 x13_1)*2^min (ji19).toNat 64))=ji21:=hji21
               have hji21z:(ji19)≤64→(IntKind.u64.wrap ((rd l0 x13_1)*2^(ji19).toNat))=ji21:=shl_small hji21
               obtain⟨y210,hy210⟩:∃y_:List Int,y_=(y208.set ((ji16):Int).toNat (Go.bits .or .u64 (rd y208 (ji16)) (ji21))):=⟨_,rfl⟩
               replace H:(whole_amount_down.l0 k1 a1 y210 l0 (l0.length:Int) (wrap64 (x13_1+1)))=some r:=by first|(rw[hy210];with_reducible exact H)|(have H2_:=(Option.bind_some _ _).symm.trans H;rw[hy210];with_reducible exact H2_)|(have H2_:=(Option.bind_some _ _).symm.trans H;with_reducible exact H2_)|with_reducible exact H|(rw[hy210];exact H)|exact H
               have Ny210:=Aside0.mk hy210
               clear hy210
               have H':=Aside0.mk H
               clear H
               have p206:0≤(x13_1:Int):=of_decide_eq_true ‹_›
               have q206:x13_1<(l0.length:Int):=of_decide_eq_true ‹_›
               obtain⟨ad206,e206,hx206_0⟩:=Kd.at_int HR0.out x13_1 p206 q206
               cases e206
               replace hx206_0:=(HB.out.cell (World.block_lt_of_cell? w _ hx206_0)).trans hx206_0
               replace p206:=eq_true p206
               replace q206:=eq_true q206
               obtain⟨Ao23,co23,eo23⟩:=Kd.R_slice HO_5.out
               subst eo23
               have p207:0≤(x13_1:Int):=of_decide_eq_true ‹_›
               have q207:x13_1<(x5_1.length:Int):=of_decide_eq_true ‹_›
               obtain⟨ad207,e207,hx207_0⟩:=Kd.at_int (Kd.R_reads' HO_5.out).2.2 x13_1 p207 q207
               cases e207
               replace p207:=eq_true p207
               replace q207:=eq_true q207
               have p13:0≤(x13_1:Int):=of_decide_eq_true ‹_›
               have q13:(x13_1:Int)<((x5_1.length:Int):Int):=of_decide_eq_true ‹_›
               obtain⟨go13,co13,eo13,gb13,gl13,cl13,HG13⟩:=Kd.R_form HO_5.out (by omega)
               (first|cases eo13|(injection eo13 with ea_ en_ ec_;(first|subst ea_|(injection ea_ with ea_;subst ea_));subst ec_;clear en_))
               have GB13:=Aside0.mk gb13
               have GG13:=Aside0.mk HG13
               clear gb13 gl13 HG13
               (first|simp only[add_plain]at hx207_0|skip)
               obtain⟨hx13_0,hf13_0⟩:=Kd.R_celln 0 HO_5.out (x13_1:Int) p13 q13
               replace p13:=eq_true p13
               replace q13:=eq_true q13
               have HP24:=Kd.R_putg HO_5.out (x13_1:Int) (Go.bits .or .u64 (rd x5_1 x13_1) (ji12))
               go_wp2_with (first|((with_reducible refine gate_store (t:=72) (p:=26) rfl ?_);refine store_event (t:=72) (p:=26) (v:=?vo_w25) (w1:=(wr.setCell ⟨go13,(x13_1:Int).toNat,none⟩ (.int .u64 (Go.bits .or .u64 (rd x5_1 x13_1) (ji12))))) ?hg ?ho ?hn ?hr ?_;(case ho=>rfl);(case hg=>rfl);(case hn=>rfl);(case hr=>first|(go_simp;done)|(go_simp;rfl));intro w25 hw;have hg:wr.grownBy w25 (some go13):=(by rw[hw];exact HP24.2);have hp_:Kd.R (Kd.int .u64) 72 w25 w.heap.size (fun k_=>(w.heap.size≤k_)) (.slice (some ⟨go13,0,none⟩) x5_1.length co23) y208:=(by rw[hw,Ny208.out];exact HP24.1);clear HP24;replace HO_5:=Aside0.mk (hp_);replace HB:=Aside0.mk ((by rw[hw];exact below_set (HB.out) GB13.out:Below w.heap.size w w25));clear hg hw hp_;have p209:0≤((ji16):Int):=of_decide_eq_true ‹_›;have q209:(ji16)<(y208.length:Int):=(by have h_:((ji16):Int)<((x5_1.length:Int):Int):=of_decide_eq_true ‹_›;first|(have e_:=(Kd.R_reads' HO_5.out).1;omega)|simpa only[Ny208.out,List.length_set] using h_);have ql209:(((ji16):Int)<((x5_1.length:Int):Int))=True:=eq_true (of_decide_eq_true ‹_›);obtain⟨ad209,e209,hx209_0⟩:=Kd.at_int (Kd.R_reads' HO_5.out).2.2 (ji16) p209 q209;obtain rfl:(⟨go13,0,none⟩:Addr)=ad209:=(by injection e209);(first|simp only[add_plain]at hx209_0|simp only[add_at]at hx209_0|simp only[Addr.add,Nat.zero_add]at hx209_0|skip);replace p209:=eq_true p209;replace q209:=eq_true q209;have p22:0≤((ji16):Int):=of_decide_eq_true ‹_›;have q22:((ji16):Int)<((x5_1.length:Int):Int):=of_decide_eq_true ‹_›;obtain⟨hx22_0,hf22_0⟩:=Kd.R_celln 0 HO_5.out ((ji16):Int) p22 q22;replace p22:=eq_true p22;replace q22:=eq_true q22;obtain⟨hy26_,hz26_⟩:=Kd.R_celln 0 HO_5.out ((ji16):Int) (of_decide_eq_true ‹_›) (of_decide_eq_true ‹_›);have HP26:=Kd.R_putg HO_5.out ((ji16):Int) (Go.bits .or .u64 (rd y208 (ji16)) (ji21)))|((with_reducible refine gate_store (t:=72) (p:=43) rfl ?_);refine store_event (t:=72) (p:=43) (v:=?vo_w27) (w1:=(w25.setCell ⟨go13,((ji16):Int).toNat,none⟩ (.int .u64 (Go.bits .or .u64 (rd y208 (ji16)) (ji21))))) ?hg ?ho ?hn ?hr ?_;(case ho=>rfl);(case hg=>rfl);(case hn=>rfl);(case hr=>first|(go_simp;done)|(go_simp;rfl));intro w27 hw;have hg:w25.grownBy w27 (some go13):=(by rw[hw];exact HP26.2);have hp_:Kd.R (Kd.int .u64) 72 w27 w.heap.size (fun k_=>(w.heap.size≤k_)) (.slice (some ⟨go13,0,none⟩) x5_1.length co23) y210:=(by rw[hw,Ny210.out];exact HP26.1);clear HP26;replace HO_5:=Aside0.mk (hp_);replace HB:=Aside0.mk ((by rw[hw];exact below_set (HB.out) GB13.out:Below w.heap.size w w27));clear hg hw hp_))
               go_roundg k1
               case measure=>have:=HK1.out;omega
               case rel=>exact⟨(y210),(wrap64 (x13_1+1)),(by first|rfl|(simp;done)|(simp[*];done)),H',⟨by have:=HK1.out;omega⟩,⟨kru HO_5.out⟩,⟨khu HB.out⟩⟩
              rw[if_neg c20]at H
              exact absurd H (by simp)
             rw[if_neg c18]at H
             exact absurd H (by simp)
            rw[if_neg c17]at H
            exact absurd H (by simp)
           rw[if_neg c15]at H
           have c15b0:decide (0<x13_1)=false:=decide_eq_false c15
           clear c15
           have H':=Aside0.mk H
           clear H
           have p206:0≤(x13_1:Int):=of_decide_eq_true ‹_›
           have q206:x13_1<(l0.length:Int):=of_decide_eq_true ‹_›
           obtain⟨ad206,e206,hx206_0⟩:=Kd.at_int HR0.out x13_1 p206 q206
           cases e206
           replace hx206_0:=(HB.out.cell (World.block_lt_of_cell? w _ hx206_0)).trans hx206_0
           replace p206:=eq_true p206
           replace q206:=eq_true q206
           obtain⟨Ao28,co28,eo28⟩:=Kd.R_slice HO_5.out
           subst eo28
           have p207:0≤(x13_1:Int):=of_decide_eq_true ‹_›
           have q207:x13_1<(x5_1.length:Int):=of_decide_eq_true ‹_›
           obtain⟨ad207,e207,hx207_0⟩:=Kd.at_int (Kd.R_reads' HO_5.out).2.2 x13_1 p207 q207
           cases e207
           replace p207:=eq_true p207
           replace q207:=eq_true q207
           have p13:0≤(x13_1:Int):=of_decide_eq_true ‹_›
           have q13:(x13_1:Int)<((x5_1.length:Int):Int):=of_decide_eq_true ‹_›
           obtain⟨go13,co13,eo13,gb13,gl13,cl13,HG13⟩:=Kd.R_form HO_5.out (by omega)
           (first|cases eo13|(injection eo13 with ea_ en_ ec_;(first|subst ea_|(injection ea_ with ea_;subst ea_));subst ec_;clear en_))
           have GB13:=Aside0.mk gb13
           have GG13:=Aside0.mk HG13
           clear gb13 gl13 HG13
           (first|simp only[add_plain]at hx207_0|skip)
           obtain⟨hx13_0,hf13_0⟩:=Kd.R_celln 0 HO_5.out (x13_1:Int) p13 q13
           replace p13:=eq_true p13
           replace q13:=eq_true q13
           have HP29:=Kd.R_putg HO_5.out (x13_1:Int) (Go.bits .or .u64 (rd x5_1 x13_1) (ji12))
           go_wp2_with (first|((with_reducible refine gate_store (t:=72) (p:=26) rfl ?_);refine store_event (t:=72) (p:=26) (v:=?vo_w30) (w1:=(wr.setCell ⟨go13,(x13_1:Int).toNat,none⟩ (.int .u64 (Go.bits .or .u64 (rd x5_1 x13_1) (ji12))))) ?hg ?ho ?hn ?hr ?_;(case ho=>rfl);(case hg=>rfl);(case hn=>rfl);(case hr=>first|(go_simp;done)|(go_simp;rfl));intro w30 hw;have hg:wr.grownBy w30 (some go13):=(by rw[hw];exact HP29.2);have hp_:Kd.R (Kd.int .u64) 72 w30 w.heap.size (fun k_=>(w.heap.size≤k_)) (.slice (some ⟨go13,0,none⟩) x5_1.length co28) y208:=(by rw[hw,Ny208.out];exact HP29.1);clear HP29;replace HO_5:=Aside0.mk (hp_);replace HB:=Aside0.mk ((by rw[hw];exact below_set (HB.out) GB13.out:Below w.heap.size w w30));clear hg hw hp_))
           go_roundg k1
           case measure=>have:=HK1.out;omega
           case rel=>exact⟨(y208),(wrap64 (x13_1+1)),(by first|rfl|(simp;done)|(simp[*];done)),H',⟨by have:=HK1.out;omega⟩,⟨kru HO_5.out⟩,⟨khu HB.out⟩⟩
          rw[if_neg c14]at H
          have c14b0:decide (0<a1)=false:=decide_eq_false c14
          clear c14
          have H':=Aside0.mk H
          clear H
          have p206:0≤(x13_1:Int):=of_decide_eq_true ‹_›
          have q206:x13_1<(l0.length:Int):=of_decide_eq_true ‹_›
          obtain⟨ad206,e206,hx206_0⟩:=Kd.at_int HR0.out x13_1 p206 q206
          cases e206
          replace hx206_0:=(HB.out.cell (World.block_lt_of_cell? w _ hx206_0)).trans hx206_0
          replace p206:=eq_true p206
          replace q206:=eq_true q206
          obtain⟨Ao31,co31,eo31⟩:=Kd.R_slice HO_5.out
          subst eo31
          have p207:0≤(x13_1:Int):=of_decide_eq_true ‹_›
          have q207:x13_1<(x5_1.length:Int):=of_decide_eq_true ‹_›
          obtain⟨ad207,e207,hx207_0⟩:=Kd.at_int (Kd.R_reads' HO_5.out).2.2 x13_1 p207 q207
          cases e207
          replace p207:=eq_true p207
          replace q207:=eq_true q207
          have p13:0≤(x13_1:Int):=of_decide_eq_true ‹_›
          have q13:(x13_1:Int)<((x5_1.length:Int):Int):=of_decide_eq_true ‹_›
          obtain⟨go13,co13,eo13,gb13,gl13,cl13,HG13⟩:=Kd.R_form HO_5.out (by omega)
          (first|cases eo13|(injection eo13 with ea_ en_ ec_;(first|subst ea_|(injection ea_ with ea_;subst ea_));subst ec_;clear en_))
          have GB13:=Aside0.mk gb13
          have GG13:=Aside0.mk HG13
          clear gb13 gl13 HG13
          (first|simp only[add_plain]at hx207_0|skip)
          obtain⟨hx13_0,hf13_0⟩:=Kd.R_celln 0 HO_5.out (x13_1:Int) p13 q13
          replace p13:=eq_true p13
          replace q13:=eq_true q13
          have HP32:=Kd.R_putg HO_5.out (x13_1:Int) (Go.bits .or .u64 (rd x5_1 x13_1) (ji12))
          go_wp2_with (first|((with_reducible refine gate_store (t:=72) (p:=26) rfl ?_);refine store_event (t:=72) (p:=26) (v:=?vo_w33) (w1:=(wr.setCell ⟨go13,(x13_1:Int).toNat,none⟩ (.int .u64 (Go.bits .or .u64 (rd x5_1 x13_1) (ji12))))) ?hg ?ho ?hn ?hr ?_;(case ho=>rfl);(case hg=>rfl);(case hn=>rfl);(case hr=>first|(go_simp;done)|(go_simp;rfl));intro w33 hw;have hg:wr.grownBy w33 (some go13):=(by rw[hw];exact HP32.2);have hp_:Kd.R (Kd.int .u64) 72 w33 w.heap.size (fun k_=>(w.heap.size≤k_)) (.slice (some ⟨go13,0,none⟩) x5_1.length co31) y208:=(by rw[hw,Ny208.out];exact HP32.1);clear HP32;replace HO_5:=Aside0.mk (hp_);replace HB:=Aside0.mk ((by rw[hw];exact below_set (HB.out) GB13.out:Below w.heap.size w w33));clear hg hw hp_))
          go_roundg k1
          case measure=>have:=HK1.out;omega
          case rel=>exact⟨(y208),(wrap64 (x13_1+1)),(by first|rfl|(simp;done)|(simp[*];done)),H',⟨by have:=HK1.out;omega⟩,⟨kru HO_5.out⟩,⟨khu HB.out⟩⟩
         rw[if_neg c11]at H
         exact absurd H (by simp)
        rw[if_neg c10]at H
        exact absurd H (by simp)
       rw[if_neg c9]at H
       exact absurd H (by simp)
      rw[if_neg c8]at H
      exact absurd H (by simp)
     rw[if_neg c7]at H
     have c7b0:decide (x13_1<(l0.length:Int))=false:=decide_eq_false c7
     clear c7
     replace H:=Option.bind_eq_some_iff.mp H
     obtain⟨t211,A340,H⟩:=H
     replace H:(some t211)=some r:=H
     have A34:=Aside0.mk A340
     clear A340
     obtain rfl:=Option.some.inj H
     obtain⟨Ao35,co35,eo35⟩:=Kd.R_slice HO_5.out
     subst eo35
     go_wp2_with (first|((with_reducible refine gate_callee (f:=46) rfl ?_);refine kgl (some 46) rfl rfl Tryz.func46 #[.slice Ao35 x5_1.length co35] rfl ?_;(with_reducible refine(whole_trimmed.calls k1 (fun k_=>some k_=(.slice Ao35 x5_1.length co35:Value).ownBlock) _ _ x5_1 t211 _ ?side1 A34.out).mono ?_);(case side1=>exact Kd.R_V (Kd.R_tight rfl (HO_5.out)));rintro e w36 ⟨v212,rfl,ho0,hb⟩;refine⟨_,rfl,?_⟩;have HO213:=Aside0.mk (Kd.V_lower (Kd.V_mono (ok':=fun k_=>(w.heap.size≤k_)) ho0 (fun k_ hk_=>Or.elim hk_ (fun hs_=>((HO_5.out).1 k_ hs_.symm)) (fun hn_=>(Nat.le_trans (below_size (khu HB.out)) hn_)))) (below_size (khu HB.out)));replace HO_5:=krb HO_5 hb;replace HB:=kbs HB hb;(try clear hb);(try clear hb2);(try clear hk);(try clear hi);(try clear ho0)))
     go_ret
     exact⟨_,by first|rfl|(simp[*,errW_none,errW_some]<;>rfl),kvu HO213.out,khu HB.out⟩
  rw[if_neg c4]at H
  exact absurd H (by simp)
 rw[if_neg c3]at H
 exact absurd H (by simp)
end Go.Proofs.YtikencoikigllaaGreatDoor.PRy
