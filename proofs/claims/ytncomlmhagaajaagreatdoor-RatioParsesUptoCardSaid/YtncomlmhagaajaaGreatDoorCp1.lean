/- Part 1 of what the card rests on. -/
import Derived.Test.YtncomlmhagaajaaGreatDoorRows
import Derived.Test.YtncomlmhagaajaaGreatDoorProg
import Derived.Below
import Derived.OwnWalk
import Derived.Laws.MakeOwn
import Derived.Laws.Externs
import Derived.Shelf.Spec.BitsCarry
import Derived.WalkKit
import Derived.KernelRfl
import Derived.RowKit3
import Derived.Lib.AppendStr
import Derived.WideLaws
import Derived.WalkSpells
import Derived.Lib.LazyBuf
import Derived.Deep.LoopGhost
import Derived.Deep.QuietTactic
import Derived.BigQuiet
import Derived.ArgAppend
import Derived.Shelf.Strings.Builder1
import Derived.Shelf.Strings.Builder2
import Derived.Shelf.Strings.OnBuilder
import Derived.Shelf.Strings.Trim
import Derived.Shelf.Small.Utf8
import Derived.Shelf.Small.Bits
import Derived.Shelf.Small.Strs
import Derived.Shelf.Small.Wraps
import Derived.Shelf.Strings.BuilderF
import Derived.Shelf.Strconv.Itoa0
import Derived.Shelf.Strconv.Itoa1
import Derived.Shelf.LaysM
import Derived.Shelf.Strconv.Itoa2
import Derived.Shelf.Strconv.Lower
import Derived.Shelf.Strconv.ParseUint10
import Derived.Shelf.Strconv.ParseUintEmpty
import Derived.Shelf.Strconv.ParseUint10b64
import Derived.Shelf.Strconv.ParseUint10b32
import Derived.Shelf.Strconv.ParseUint10b16
import Derived.Shelf.Strconv.ParseUint10b8
import Derived.Shelf.Strconv.ParseUint10At
import Derived.Ground.MpProg
import Derived.Shelf.Pu.ParseUintPublic10
import Derived.Shelf.Strings.Search1
import Derived.Shelf.Strings.Search2
import Derived.Shelf.Strings.Cut
import Derived.Shelf.Strings.Shaped
import Derived.Shelf.Strings.Prefix
import Derived.Shelf.Strings.Runes
import Derived.Shelf.Strings.AsciiSet
import Derived.Shelf.Bits.Mul64
import Derived.Shelf.Strings.Repeat
import Derived.Shelf.Unicode.DecodeSlow
import Derived.Ground.Names2Prog
import Derived.Shelf.Slices.ReverseS
import Derived.Shelf.Slices.Cells
import Derived.Shelf.Strings.SlTrimAscii
import Derived.Lib.ParseIntBCases
import Derived.Lib.OthersKept
import Derived.Lib.IndexLaws
import Derived.Deep.Draws
import Derived.Deep.AppendLies
import Derived.Maps.AppendAt
import Derived.Laws.BytesArg
import Derived.Laws.OwnMore
import Derived.Deep.OwnRows
import Derived.Tactics
import Derived.Lib.ConvBytes
import Derived.Laws.Slices
import Derived.Deep.DeepCutAuto
import Derived.Deep.CutBlock
import Derived.Deep.RegionHeld3
import Derived.Laws.Rows
import Derived.Laws.IdiomCopy
import Derived.OrdersHeld
import Derived.Laws.BitsLemmas
import Derived.RowKit
import Derived.Test.YtncomlmhagaajaaGreatDoorCp0
set_option maxHeartbeats 8000000
set_option maxRecDepth 100000
set_option linter.unusedVariables false
set_option linter.unusedSimpArgs false
namespace Go.Proofs.YtncomlmhagaajaaGreatDoor.bulks
theorem one_le {H:Type} (d:DataW H):1≤Rows.uptoBulk d:=by
 cases d with
 | lit l=>cases l<;>simp[Rows.uptoBulk]
 | nil=>simp[Rows.uptoBulk]
 | ptr d=>simp[Rows.uptoBulk]
 | slice elems spare=>simp[Rows.uptoBulk]
 | agg parts=>simp[Rows.uptoBulk]
 | iface t d=>simp[Rows.uptoBulk]
 | map entries=>simp[Rows.uptoBulk]
 | held h=>simp[Rows.uptoBulk]
theorem append {H:Type} (l r:List (DataW H)):Rows.uptoBulkAll (l++r)=Rows.uptoBulkAll l+Rows.uptoBulkAll r:=by
 induction l with
 | nil=>simp[Rows.uptoBulkAll]
 | cons x l ih=>simp only[List.cons_append,Rows.uptoBulkAll,ih];omega
theorem length_le {H:Type} (l:List (DataW H)):l.length≤Rows.uptoBulkAll l:=by
 induction l with
 | nil=>simp[Rows.uptoBulkAll]
 | cons x r ih=>have:=one_le x;simp only[Rows.uptoBulkAll,List.length_cons];omega
theorem bound {H:Type} {l:List (DataW H)} (hk:Rows.uptoSmall H l=true):Rows.uptoBulkAll l≤1048576:=by
 simpa [Rows.uptoSmall] using hk
end Go.Proofs.YtncomlmhagaajaaGreatDoor.bulks
namespace Go.Proofs.YtncomlmhagaajaaGreatDoorW.PrintWords
open Go.RowKit
namespace Kd
section
variable {α:Type} {P:Program} {ops:Array Oper} {o:Oper} {a:Act} {rest:List Oper} {Q:Exit→Act→World→Prop}
theorem R_make0 (d:Kd α) {w0 W:World} (base e:Nat) (hgd:o.guard=none) {N:Tmp} (_hd:o.dst=some N) (t:TypeId) (x y:Operand) (ho:o.op=.makeSlice t x y) (n:Int) (hx:a.eval x=.int .i64 0) (hy:a.eval y=.int .i64 n)
  (ht:P.underlying t=some (.slice e)) (z:Value) (bytes:Nat) (hinfo:(P.info? e).map (fun i=>(i.zero,i.size,i.bytes))=some (some z,d.sz,bytes)) (_hz:z.cells.size=d.sz) (_hs0:0<d.sz) (hb0:0<bytes)
  (z0:α) {ok okp:Nat→Prop} (_hzero:d.M W base okp z0 z.cells.toList) (_hok:∀k,okp k→ok k) (hfresh:ok W.heap.size) (h0:0≤n) (hl:n.toNat*bytes≤281474976710656) (HB:Below base w0 W) (hbase:base≤W.heap.size)
  (h:∀v1 w1,d.R e w1 base ok v1 []→Below base w0 w1→W.grownBy w1 none→(∃b,v1.ownBlock=some b∧W.heap.size≤b)→wpList P ops Q rest (a.put o.dst v1) w1):wpList P ops Q (o::rest) a W:=by
 obtain⟨m,rfl⟩:=Int.eq_ofNat_of_zero_le h0
 simp only[Int.toNat_natCast]at hl
 obtain⟨i0,hi,hzz⟩:=Option.map_eq_some_iff.1 hinfo
 simp only[Prod.mk.injEq]at hzz
 obtain⟨hz0,hz1,hz2⟩:=hzz
 have hm:m≤281474976710656:=Nat.le_trans (Nat.le_mul_of_pos_right _ hb0) hl
 have hr:=run_make (P:=P) W t e i0 z ht hi hz0 .i64 .i64 0 (m:Int) (by omega) (by omega)
  (by
   have h3:((i0.bytes*m:Nat):Int)≤281474976710656:=by rw[hz2,Nat.mul_comm];omega
   rwa [Int.natCast_mul]at h3) (by omega)
 simp only[Int.toNat_natCast,Int.toNat_zero]at hr
 rw[hz1]at hr
 have hrun:(execOp a.eval o).run P W=.ok (.value (.slice (some ⟨W.heap.size,0,none⟩) 0 m)) (W.alloc (.cells (madeCells z.cells (m*d.sz)) e)):=by
  simp[execOp,ho,hx,hy,hr]
 refine event_run hgd hrun (h _ _ ⟨fun k hk=>?_,[],?_,?_⟩ (HB.alloc hbase _) (World.grownBy_alloc W _ none) ⟨W.heap.size,by simp[Value.ownBlock],Nat.le_refl _⟩)
 ·have:W.heap.size=k:=by simpa [Value.ownBlock] using hk
  subst this
  exact hfresh
 ·exact World.ownsRow_made W _ m hbase (by unfold maxLen;omega) (by rw[size_madeCells])
 exact Reps.none _ _
end
end Kd
end Go.Proofs.YtncomlmhagaajaaGreatDoorW.PrintWords
namespace Go.Proofs.YtncomlmhagaajaaGreatDoor.Mine
open Go.RowKit Go.Proofs.YtncomlmhagaajaaGreatDoorW.PrintWords Go.Proofs.YtncomlmhagaajaaGreatDoorW.PrintLast Go.Proofs.YtncomlmhagaajaaGreatDoorW.PrintMore
def bits_Add64.f (x y c:Int):Option (Int×Int):=if 0≤x∧0≤y∧0≤c∧c≤1 then some ((x+y+c)%18446744073709551616,(x+y+c)/18446744073709551616) else none
theorem bits_Add64.run {x y c r1 r2:Int} (h:bits_Add64.f x y c=some (r1,r2)):∀w:World,(callFunc 155 #[.int .u64 x,.int .u64 y,.int .u64 c]).run Tryz.prog w=.ok (.value (.tuple #[.int .u64 r1,.int .u64 r2])) w:=by
 intro w
 unfold bits_Add64.f at h
 split at h
 ·rename_i hc
  obtain⟨hx,hy,h0,h1⟩:=hc
  have h2:=Option.some.inj h
  simp only[Prod.mk.injEq]at h2
  obtain⟨rfl,rfl⟩:=h2
  rw[run_callFunc_extern Tryz.func155 X0 X0 X0 (e:=add64Entry) X0,run_add64 x y c hx hy h0 h1]
  rfl
 cases h
def bits_Sub64.f (x y c:Int):Option (Int×Int):=if 0≤x∧0≤y∧y<18446744073709551616∧0≤c∧c≤1 then some ((x-y-c)%18446744073709551616,if x<y+c then 1 else 0) else none
theorem bits_Sub64.run {x y c r1 r2:Int} (h:bits_Sub64.f x y c=some (r1,r2)):∀w:World,(callFunc 230 #[.int .u64 x,.int .u64 y,.int .u64 c]).run Tryz.prog w=.ok (.value (.tuple #[.int .u64 r1,.int .u64 r2])) w:=by
 intro w
 unfold bits_Sub64.f at h
 split at h
 ·rename_i hc
  obtain⟨hx,hy,hy',h0,h1⟩:=hc
  have h2:=Option.some.inj h
  simp only[Prod.mk.injEq]at h2
  obtain⟨rfl,rfl⟩:=h2
  obtain⟨x,rfl⟩:=Int.eq_ofNat_of_zero_le hx
  obtain⟨y,rfl⟩:=Int.eq_ofNat_of_zero_le hy
  obtain⟨c,rfl⟩:=Int.eq_ofNat_of_zero_le h0
  have e1:(((x+18446744073709551616-y-c)%18446744073709551616:Nat):Int)=((x:Int)-y-c)%18446744073709551616:=by omega
  have e2:((if x<y+c then 1 else 0:Nat):Int)=if(x:Int)<y+c then 1 else 0:=by split<;>split<;>omega
  rw[run_callFunc_extern Tryz.func230 X0 X0 X0 (e:=sub64Entry) X0,run_sub64 x y c Z0]
  rw[←e1,←e2]
  rfl
 cases h
theorem minfo59:(Tryz.prog.info? 91).map (fun i=>(i.zero,i.size,i.bytes))=some (some (.int .u64 0),1,8):=by kernel_rfl
def api_Nat_uint64.f (l0:List Int):Option (List Int):=if l0.length<17592186044416 then some l0 else none
set_option maxHeartbeats 1000000 in
theorem api_Nat_uint64.calls (A0:Option Addr) (c0:Nat) (l0:List Int) (r:List Int) (w:World) (hr0:Kd.C (Kd.int .u64) w A0 l0.length l0) (hc0:l0.length≤c0) (h:api_Nat_uint64.f l0=some r) :
  Calls Tryz.prog 161 #[.slice A0 l0.length c0] w fun e w'=>∃v0_:Value,e=.returned (v0_)∧Kd.R (Kd.int .u64) 91 w' w.heap.size (fun _=>True) v0_ r∧Below w.heap.size w w':=by
 unfold api_Nat_uint64.f at h
 split at h
 ·rename_i hlen
  obtain rfl:=Option.some.inj h
  clear h
  have HR0:=Aside0.mk hr0
  have HC0:=Aside0.mk hc0
  have HL:=Aside0.mk hlen
  clear hc0 hlen
  rcases A0 with _|a
  ·have hl:l0=[]:=by
    rcases l0 with _|⟨x,l⟩
    ·rfl
    obtain⟨ad,he,_⟩:=Kd.at_int hr0 0 Z0 Z1
    cases he
   subst hl
   clear hr0
   have hn:=fun(w:World)=>_root_.Go.run_eql_slice_nil (P:=Tryz.prog) w 23 91 none 0 c0 Tryz.underlying23
   go_enter Tryz.func161,Tryz.ntmps161
   go_wp2
   go_ret
   exact⟨_,rfl,Kd.R_nil _ _ _ _ _,Below.refl _ _⟩
  clear hr0
  have hn:=fun(w:World)=>_root_.Go.run_eql_slice_nil (P:=Tryz.prog) w 23 91 (some a) l0.length c0 Tryz.underlying23
  go_enter Tryz.func161,Tryz.ntmps161
  go_wp2_with (first
   | ((with_reducible refine gate_dst (N:=5) rfl ?_);refine Kd.R_lit (Kd.int .u64) _ 91 ?hg (N:=5) ?hd (xs:=([]:List Int)) (inner:=[]) (ok:=fun _=>True) (okp:=fun _=>True) ?hr ?hp (fun _ hk=>hk) trivial (Below.refl _ _) (Nat.le_refl _) Z1 ?_;(case hd=>rfl);(case hg=>rfl);(case hr=>first|(go_simp;done)|(go_simp;rfl));(case hp=>exact(Reps.none _ _));intro v1 w1 ho hb hg_ hnew_;clear hg_ hnew_;have HO:=Aside0.mk ho;have HB:=Aside0.mk hb;clear ho hb;obtain⟨Ao,co,eo⟩:=Kd.R_slice HO.out;subst eo)
   | ((with_reducible refine gate_builtin (b:=.append) (xs:=#[.tmp 5,.tmp 6]) rfl ?_);at_builtin;refine Kd.R_append_rows (Kd.int .u64) (w0:=w) w.heap.size rfl (.tmp 5) (.tmp 6) 23 91 (.int .u64 0) 8 rfl Tryz.underlying23 minfo59 rfl J0 Z0 (.slice Ao ([]:List Int).length co) [] l0 _ _ _ (fun _=>True) (fun _=>False) rfl rfl ?aO ?aR (fun _ _ h=>h) (fun _ h=>h.elim) ?aF ?aB ?aS ?aL ?_;(case aR=>exact Kd.C_below HR0.out HB.out);(case aB=>exact HB.out);(case aF=>exact fun _ _=>trivial);(case aO=>exact HO.out);(case aS=>exact below_size HB.out);(case aL=>have:=HL.out;simp only[List.length_nil];omega);intro v2 w2 ho hb hg hat;have HO2:=Aside0.mk ho;have HB2:=Aside0.mk hb;clear ho hb hg hat;simp only[List.nil_append]at HO2;obtain⟨Ao2,co2,eo2⟩:=Kd.R_slice HO2.out;subst eo2))
  go_ret
  exact⟨_,rfl,HO2.out,HB2.out⟩
 cases h
def strconv_FormatUint.f (a0 a1:Int):Option ByteArray:=if a1=10 then
 (if a0=0 then some ⟨#[48]⟩ else if a0=1 then some ⟨#[49]⟩ else if a0=2 then some ⟨#[50]⟩ else if a0=3 then some ⟨#[51]⟩ else if a0=4 then some ⟨#[52]⟩ else none) else none
theorem formatUint0 (w:World):Calls Tryz.prog 88 #[.int .u64 0,.int .i64 10] w fun e w'=>e=.returned (.string ⟨#[48]⟩)∧Drawn0 w w':=by
 go_enter Tryz.func88,Tryz.ntmps88
 go_wp2
 go_ret
 exact⟨X8,Y1⟩
theorem formatUint1 (w:World):Calls Tryz.prog 88 #[.int .u64 1,.int .i64 10] w fun e w'=>e=.returned (.string ⟨#[49]⟩)∧Drawn0 w w':=by
 go_enter Tryz.func88,Tryz.ntmps88
 go_wp2
 go_ret
 exact⟨X8,Y1⟩
theorem formatUint2 (w:World):Calls Tryz.prog 88 #[.int .u64 2,.int .i64 10] w fun e w'=>e=.returned (.string ⟨#[50]⟩)∧Drawn0 w w':=by
 go_enter Tryz.func88,Tryz.ntmps88
 go_wp2
 go_ret
 exact⟨X8,Y1⟩
theorem formatUint3 (w:World):Calls Tryz.prog 88 #[.int .u64 3,.int .i64 10] w fun e w'=>e=.returned (.string ⟨#[51]⟩)∧Drawn0 w w':=by
 go_enter Tryz.func88,Tryz.ntmps88
 go_wp2
 go_ret
 exact⟨X8,Y1⟩
theorem formatUint4 (w:World):Calls Tryz.prog 88 #[.int .u64 4,.int .i64 10] w fun e w'=>e=.returned (.string ⟨#[52]⟩)∧Drawn0 w w':=by
 go_enter Tryz.func88,Tryz.ntmps88
 go_wp2
 go_ret
 exact⟨X8,Y1⟩
theorem strconv_FormatUint.calls (a0 a1:Int) (r:ByteArray) (w:World) (h:strconv_FormatUint.f a0 a1=some r) :
  Calls Tryz.prog 88 #[.int .u64 a0,.int .i64 a1] w fun e w'=>e=.returned (.string r)∧Drawn0 w w':=by
 unfold strconv_FormatUint.f at h
 split at h
 ·rename_i h1
  subst h1
  split at h
  ·rename_i h0;subst h0;obtain rfl:=Option.some.inj h;exact formatUint0 w
  split at h
  ·rename_i h0;subst h0;obtain rfl:=Option.some.inj h;exact formatUint1 w
  split at h
  ·rename_i h0;subst h0;obtain rfl:=Option.some.inj h;exact formatUint2 w
  split at h
  ·rename_i h0;subst h0;obtain rfl:=Option.some.inj h;exact formatUint3 w
  split at h
  ·rename_i h0;subst h0;obtain rfl:=Option.some.inj h;exact formatUint4 w
  cases h
 cases h
end Go.Proofs.YtncomlmhagaajaaGreatDoor.Mine
namespace Go.Proofs
open Go.Shelf
def Tryz.lays156_ren:Go.Shelf.Ren:=⟨fun|156=>90|165=>122|166=>123|169=>125|240=>182|241=>183|276=>231|277=>232|n=>n,fun|31=>138|9=>9|3=>3|4=>4|0=>0|20=>20|72=>182|76=>184|70=>180|37=>173|75=>127|127=>241|164=>278|5=>5|80=>187|n=>n,fun|n=>n⟩
theorem Tryz.lays156:Go.Proofs.Lays.n156 Tryz.prog Tryz.lays156_ren:={
 mixed:=by kernel_rfl
 f156:=Tryz.func90.trans (congrArg some (by kernel_rfl))
 f165:=Tryz.func122.trans (congrArg some (by kernel_rfl))
 f166:=Tryz.func123.trans (congrArg some (by kernel_rfl))
 f169:=Tryz.func125.trans (congrArg some (by kernel_rfl))
 f240:=Tryz.func182.trans (congrArg some (by kernel_rfl))
 f241:=Tryz.func183.trans (congrArg some (by kernel_rfl))
 f276:=Tryz.func231.trans (congrArg some (by kernel_rfl))
 f277:=Tryz.func232.trans (congrArg some (by kernel_rfl))
 t0:=Tryz.underlying0
 a0:=Tryz.isAgg0
 z0:=Tryz.sizeOf0
 v0:=Tryz.zeroValue0
 t3:=Tryz.underlying3
 a3:=Tryz.isAgg3
 z3:=Tryz.sizeOf3
 v3:=Tryz.zeroValue3
 t4:=Tryz.underlying4
 a4:=Tryz.isAgg4
 z4:=Tryz.sizeOf4
 v4:=Tryz.zeroValue4
 t9:=Tryz.underlying9
 a9:=Tryz.isAgg9
 z9:=Tryz.sizeOf9
 v9:=Tryz.zeroValue9
 t20:=Tryz.underlying20
 a20:=Tryz.isAgg20
 z20:=Tryz.sizeOf20
 v20:=Tryz.zeroValue20
 t31:=Tryz.underlying138
 a31:=Tryz.isAgg138
 z31:=Tryz.sizeOf138
 v31:=Tryz.zeroValue138
 t37:=Tryz.underlying173
 a37:=Tryz.isAgg173
 z37:=Tryz.sizeOf173
 v37:=Tryz.zeroValue173
 t70:=Tryz.underlying180
 a70:=Tryz.isAgg180
 z70:=Tryz.sizeOf180
 v70:=Tryz.zeroValue180
 t72:=Tryz.underlying182
 a72:=Tryz.isAgg182
 z72:=Tryz.sizeOf182
 v72:=Tryz.zeroValue182
 t75:=Tryz.underlying127
 a75:=Tryz.isAgg127
 z75:=Tryz.sizeOf127
 v75:=Tryz.zeroValue127
 t76:=Tryz.underlying184
 a76:=Tryz.isAgg184
 z76:=Tryz.sizeOf184
 v76:=Tryz.zeroValue184
 t127:=Tryz.underlying241
 a127:=Tryz.isAgg241
 z127:=Tryz.sizeOf241
 v127:=Tryz.zeroValue241
 t164:=Tryz.underlying278
 a164:=Tryz.isAgg278
 z164:=Tryz.sizeOf278
 v164:=Tryz.zeroValue278}
theorem Tryz.Builder_Extra_156:Builder.Extra Tryz.prog Tryz.lays156_ren:={
 sizeBuilder:=by kernel_rfl
 liesBuilder:=by kernel_rfl
 t5:=Tryz.underlying5
 a5:=Tryz.isAgg5
 z5:=Tryz.sizeOf5
 v5:=Tryz.zeroValue5
 infoByte:=by kernel_rfl
 cellsByte:=by kernel_rfl
 sizeByte:=by kernel_rfl
 neB5:=by decide}
open Go.RowKit in
theorem Tryz.strings_Join_none (a:Option Addr) (c:Nat) (sep:ByteArray) (w:World) :
  Calls Tryz.prog 90 #[.slice a 0 c,.string sep] w fun e w'=>e=.returned (.string ⟨#[]⟩)∧w'=w:=Any.strings_Join_none Tryz.lays156 Tryz.Builder_Extra_156 a c sep w
open Go.RowKit in
theorem Tryz.strings_Join (bk o c:Nat) (xs:List ByteArray) (sep:ByteArray) (w:World) (hcells:∀(j:Nat) x,xs[j]? = some x→w.cell? ⟨bk,o+j,none⟩=some (.string x)) (hbk:bk<w.heap.size) (hN:xs.length≤140737488355328) (hcap:xs.length≤c) (hlen:(Lib.join (xs.map (·.data.toList)) sep.data.toList).length≤140737488355328) :
  Calls Tryz.prog 90 #[.slice (some ⟨bk,o,none⟩) xs.length c,.string sep] w fun e w'=>e=.returned (.string ⟨(Lib.join (xs.map (·.data.toList)) sep.data.toList).toArray⟩)∧Below w.heap.size w w':=Any.strings_Join Tryz.lays156 Tryz.Builder_Extra_156 bk o c xs sep w hcells hbk hN hcap hlen
def Tryz.lays161_ren:Go.Shelf.Ren:=⟨fun|161=>75|231=>145|227=>147|233=>148|235=>150|228=>208|197=>209|151=>210|260=>279|152=>280|137=>296|119=>297|224=>290|225=>289|217=>288|266=>300|n=>n,fun|9=>9|4=>4|3=>3|5=>5|117=>213|116=>212|0=>0|124=>216|105=>258|21=>21|119=>306|46=>154|139=>309|138=>308|n=>n,fun|3=>6|4=>7|n=>n⟩
theorem Tryz.lays161:Go.Proofs.Lays.n161 Tryz.prog Tryz.lays161_ren:={
 mixed:=by kernel_rfl
 f119:=Tryz.func297.trans (congrArg some (by kernel_rfl))
 f137:=Tryz.func296.trans (congrArg some (by kernel_rfl))
 f151:=Tryz.func210.trans (congrArg some (by kernel_rfl))
 f152:=Tryz.func280.trans (congrArg some (by kernel_rfl))
 f161:=Tryz.func75.trans (congrArg some (by kernel_rfl))
 f197:=Tryz.func209.trans (congrArg some (by kernel_rfl))
 f217:=Tryz.func288.trans (congrArg some (by kernel_rfl))
 f224:=Tryz.func290.trans (congrArg some (by kernel_rfl))
 f225:=Tryz.func289.trans (congrArg some (by kernel_rfl))
 f227:=Tryz.func147.trans (congrArg some (by kernel_rfl))
 f228:=Tryz.func208.trans (congrArg some (by kernel_rfl))
 f231:=Tryz.func145.trans (congrArg some (by kernel_rfl))
 f233:=Tryz.func148.trans (congrArg some (by kernel_rfl))
 f235:=Tryz.func150.trans (congrArg some (by kernel_rfl))
 f260:=Tryz.func279.trans (congrArg some (by kernel_rfl))
 f266:=Tryz.func300.trans (congrArg some (by kernel_rfl))
 t0:=Tryz.underlying0
 a0:=Tryz.isAgg0
 z0:=Tryz.sizeOf0
 v0:=Tryz.zeroValue0
 t3:=Tryz.underlying3
 a3:=Tryz.isAgg3
 z3:=Tryz.sizeOf3
 v3:=Tryz.zeroValue3
 t4:=Tryz.underlying4
 a4:=Tryz.isAgg4
 z4:=Tryz.sizeOf4
 v4:=Tryz.zeroValue4
 t5:=Tryz.underlying5
 a5:=Tryz.isAgg5
 z5:=Tryz.sizeOf5
 v5:=Tryz.zeroValue5
 t9:=Tryz.underlying9
 a9:=Tryz.isAgg9
 z9:=Tryz.sizeOf9
 v9:=Tryz.zeroValue9
 t21:=Tryz.underlying21
 a21:=Tryz.isAgg21
 z21:=Tryz.sizeOf21
 v21:=Tryz.zeroValue21
 t46:=Tryz.underlying154
 a46:=Tryz.isAgg154
 z46:=Tryz.sizeOf154
 v46:=Tryz.zeroValue154
 t105:=Tryz.underlying258
 a105:=Tryz.isAgg258
 z105:=Tryz.sizeOf258
 v105:=Tryz.zeroValue258
 t116:=Tryz.underlying212
 a116:=Tryz.isAgg212
 z116:=Tryz.sizeOf212
 t117:=Tryz.underlying213
 a117:=Tryz.isAgg213
 z117:=Tryz.sizeOf213
 v117:=Tryz.zeroValue213
 t119:=Tryz.underlying306
 a119:=Tryz.isAgg306
 z119:=Tryz.sizeOf306
 t124:=Tryz.underlying216
 a124:=Tryz.isAgg216
 z124:=Tryz.sizeOf216
 v124:=Tryz.zeroValue216
 t138:=Tryz.underlying308
 a138:=Tryz.isAgg308
 z138:=Tryz.sizeOf308
 v138:=Tryz.zeroValue308
 t139:=Tryz.underlying309
 a139:=Tryz.isAgg309
 z139:=Tryz.sizeOf309
 v139:=Tryz.zeroValue309
 g3:=by kernel_rfl
 g4:=by kernel_rfl}
def Tryz.lays160_ren:Go.Shelf.Ren:=⟨fun|160=>74|232=>146|231=>145|227=>147|234=>149|233=>148|236=>151|235=>150|228=>208|271=>211|151=>210|197=>209|120=>281|152=>280|260=>279|137=>296|119=>297|224=>290|225=>289|217=>288|266=>300|n=>n,fun|9=>9|4=>4|3=>3|5=>5|117=>213|116=>212|0=>0|124=>216|21=>21|105=>258|46=>154|119=>306|139=>309|138=>308|n=>n,fun|3=>6|4=>7|n=>n⟩
theorem Tryz.lays160:Go.Proofs.Lays.n160 Tryz.prog Tryz.lays160_ren:={
 mixed:=by kernel_rfl
 f119:=Tryz.func297.trans (congrArg some (by kernel_rfl))
 f120:=Tryz.func281.trans (congrArg some (by kernel_rfl))
 f137:=Tryz.func296.trans (congrArg some (by kernel_rfl))
 f151:=Tryz.func210.trans (congrArg some (by kernel_rfl))
 f152:=Tryz.func280.trans (congrArg some (by kernel_rfl))
 f160:=Tryz.func74.trans (congrArg some (by kernel_rfl))
 f197:=Tryz.func209.trans (congrArg some (by kernel_rfl))
 f217:=Tryz.func288.trans (congrArg some (by kernel_rfl))
 f224:=Tryz.func290.trans (congrArg some (by kernel_rfl))
 f225:=Tryz.func289.trans (congrArg some (by kernel_rfl))
 f227:=Tryz.func147.trans (congrArg some (by kernel_rfl))
 f228:=Tryz.func208.trans (congrArg some (by kernel_rfl))
 f231:=Tryz.func145.trans (congrArg some (by kernel_rfl))
 f232:=Tryz.func146.trans (congrArg some (by kernel_rfl))
 f233:=Tryz.func148.trans (congrArg some (by kernel_rfl))
 f234:=Tryz.func149.trans (congrArg some (by kernel_rfl))
 f235:=Tryz.func150.trans (congrArg some (by kernel_rfl))
 f236:=Tryz.func151.trans (congrArg some (by kernel_rfl))
 f260:=Tryz.func279.trans (congrArg some (by kernel_rfl))
 f266:=Tryz.func300.trans (congrArg some (by kernel_rfl))
 f271:=Tryz.func211.trans (congrArg some (by kernel_rfl))
 t0:=Tryz.underlying0
 a0:=Tryz.isAgg0
 z0:=Tryz.sizeOf0
 v0:=Tryz.zeroValue0
 t3:=Tryz.underlying3
 a3:=Tryz.isAgg3
 z3:=Tryz.sizeOf3
 v3:=Tryz.zeroValue3
 t4:=Tryz.underlying4
 a4:=Tryz.isAgg4
 z4:=Tryz.sizeOf4
 v4:=Tryz.zeroValue4
 t5:=Tryz.underlying5
 a5:=Tryz.isAgg5
 z5:=Tryz.sizeOf5
 v5:=Tryz.zeroValue5
 t9:=Tryz.underlying9
 a9:=Tryz.isAgg9
 z9:=Tryz.sizeOf9
 v9:=Tryz.zeroValue9
 t21:=Tryz.underlying21
 a21:=Tryz.isAgg21
 z21:=Tryz.sizeOf21
 v21:=Tryz.zeroValue21
 t46:=Tryz.underlying154
 a46:=Tryz.isAgg154
 z46:=Tryz.sizeOf154
 v46:=Tryz.zeroValue154
 t105:=Tryz.underlying258
 a105:=Tryz.isAgg258
 z105:=Tryz.sizeOf258
 v105:=Tryz.zeroValue258
 t116:=Tryz.underlying212
 a116:=Tryz.isAgg212
 z116:=Tryz.sizeOf212
 t117:=Tryz.underlying213
 a117:=Tryz.isAgg213
 z117:=Tryz.sizeOf213
 v117:=Tryz.zeroValue213
 t119:=Tryz.underlying306
 a119:=Tryz.isAgg306
 z119:=Tryz.sizeOf306
 t124:=Tryz.underlying216
 a124:=Tryz.isAgg216
 z124:=Tryz.sizeOf216
 v124:=Tryz.zeroValue216
 t138:=Tryz.underlying308
 a138:=Tryz.isAgg308
 z138:=Tryz.sizeOf308
 v138:=Tryz.zeroValue308
 t139:=Tryz.underlying309
 a139:=Tryz.isAgg309
 z139:=Tryz.sizeOf309
 v139:=Tryz.zeroValue309
 g3:=by kernel_rfl
 g4:=by kernel_rfl}
def Tryz.lays134_ren:Go.Shelf.Ren:=⟨fun|134=>174|129=>168|n=>n,fun|53=>91|3=>3|4=>4|46=>154|5=>5|9=>9|n=>n,fun|n=>n⟩
theorem Tryz.lays134:Go.Proofs.Lays.n134 Tryz.prog Tryz.lays134_ren:={
 mixed:=by kernel_rfl
 f129:=Tryz.func168.trans (congrArg some (by kernel_rfl))
 f134:=Tryz.func174.trans (congrArg some (by kernel_rfl))
 t3:=Tryz.underlying3
 a3:=Tryz.isAgg3
 z3:=Tryz.sizeOf3
 v3:=Tryz.zeroValue3
 t4:=Tryz.underlying4
 a4:=Tryz.isAgg4
 z4:=Tryz.sizeOf4
 v4:=Tryz.zeroValue4
 t5:=Tryz.underlying5
 a5:=Tryz.isAgg5
 z5:=Tryz.sizeOf5
 v5:=Tryz.zeroValue5
 t9:=Tryz.underlying9
 a9:=Tryz.isAgg9
 z9:=Tryz.sizeOf9
 v9:=Tryz.zeroValue9
 t46:=Tryz.underlying154
 a46:=Tryz.isAgg154
 z46:=Tryz.sizeOf154
 v46:=Tryz.zeroValue154
 t53:=Tryz.underlying91
 a53:=Tryz.isAgg91
 z53:=Tryz.sizeOf91
 v53:=Tryz.zeroValue91}
theorem Tryz.bits_LeadingZeros64 (x:Int) (w:World) (h0:0≤x) (h1:x≤18446744073709551615) :
  Calls Tryz.prog 174 #[.int .u64 x] w fun e w'=>e=.returned (.int .i64 (64-(Lib.bitLen x.toNat:Int)))∧w'=w:=Any.bits_LeadingZeros64 Tryz.lays134 x w h0 h1
def Tryz.lays103_ren:Go.Shelf.Ren:=⟨fun|103=>73|210=>144|206=>166|n=>n,fun|9=>9|4=>4|24=>123|3=>3|n=>n,fun|n=>n⟩
theorem Tryz.lays103:Go.Proofs.Lays.n103 Tryz.prog Tryz.lays103_ren:={
 mixed:=by kernel_rfl
 f103:=Tryz.func73.trans (congrArg some (by kernel_rfl))
 f206:=Tryz.func166.trans (congrArg some (by kernel_rfl))
 f210:=Tryz.func144.trans (congrArg some (by kernel_rfl))
 t3:=Tryz.underlying3
 a3:=Tryz.isAgg3
 z3:=Tryz.sizeOf3
 v3:=Tryz.zeroValue3
 t4:=Tryz.underlying4
 a4:=Tryz.isAgg4
 z4:=Tryz.sizeOf4
 v4:=Tryz.zeroValue4
 t9:=Tryz.underlying9
 a9:=Tryz.isAgg9
 z9:=Tryz.sizeOf9
 v9:=Tryz.zeroValue9
 t24:=Tryz.underlying123
 a24:=Tryz.isAgg123
 z24:=Tryz.sizeOf123
 v24:=Tryz.zeroValue123}
open Go.RowKit in
theorem Tryz.strings_CutPrefix (s p:ByteArray) (w:World) :
  Calls Tryz.prog 73 #[.string s,.string p] w fun e w'=>e=.returned (.tuple #[.string ⟨(Lib.trimPrefix s.data.toList p.data.toList).toArray⟩,.bool (Lib.hasPrefix s.data.toList p.data.toList)])∧w'=w:=Any.strings_CutPrefix Tryz.lays103 s p w
def Tryz.lays129_ren:Go.Shelf.Ren:=⟨fun|129=>168|n=>n,fun|53=>91|3=>3|4=>4|46=>154|5=>5|9=>9|n=>n,fun|n=>n⟩
theorem Tryz.lays129:Go.Proofs.Lays.n129 Tryz.prog Tryz.lays129_ren:={
 mixed:=by kernel_rfl
 f129:=Tryz.func168.trans (congrArg some (by kernel_rfl))
 t3:=Tryz.underlying3
 a3:=Tryz.isAgg3
 z3:=Tryz.sizeOf3
 v3:=Tryz.zeroValue3
 t4:=Tryz.underlying4
 a4:=Tryz.isAgg4
 z4:=Tryz.sizeOf4
 v4:=Tryz.zeroValue4
 t5:=Tryz.underlying5
 a5:=Tryz.isAgg5
 z5:=Tryz.sizeOf5
 v5:=Tryz.zeroValue5
 t9:=Tryz.underlying9
 a9:=Tryz.isAgg9
 z9:=Tryz.sizeOf9
 v9:=Tryz.zeroValue9
 t46:=Tryz.underlying154
 a46:=Tryz.isAgg154
 z46:=Tryz.sizeOf154
 v46:=Tryz.zeroValue154
 t53:=Tryz.underlying91
 a53:=Tryz.isAgg91
 z53:=Tryz.sizeOf91
 v53:=Tryz.zeroValue91}
theorem Tryz.bits_Len64 (x:Int) (w:World) (h0:0≤x) (h1:x≤18446744073709551615) :
  Calls Tryz.prog 168 #[.int .u64 x] w fun e w'=>e=.returned (.int .i64 (Lib.bitLen x.toNat))∧w'=w:=Any.bits_Len64 Tryz.lays129 x w h0 h1
def Tryz.laysPu14_ren:Go.Shelf.Ren:=⟨fun|14=>76|16=>152|17=>153|19=>212|20=>213|21=>214|22=>215|23=>216|24=>217|25=>282|27=>239|26=>283|28=>293|29=>302|30=>218|31=>219|32=>220|33=>221|35=>168|34=>284|36=>285|37=>286|38=>287|39=>298|40=>299|n=>n,fun|9=>9|3=>3|22=>91|24=>127|25=>128|4=>4|34=>261|5=>5|36=>154|37=>173|0=>0|39=>263|21=>21|44=>295|47=>241|50=>312|48=>310|2=>2|52=>266|55=>268|59=>299|60=>223|20=>20|61=>300|65=>315|66=>316|67=>187|n=>n,fun|0=>2|1=>3|2=>4|3=>8|4=>9|n=>n⟩
theorem Tryz.laysPu14:Go.Proofs.LaysPu.n14 Tryz.prog Tryz.laysPu14_ren:={
 mixed:=by kernel_rfl
 f14:=Tryz.func76.trans (congrArg some (by kernel_rfl))
 f16:=Tryz.func152.trans (congrArg some (by kernel_rfl))
 f17:=Tryz.func153.trans (congrArg some (by kernel_rfl))
 f19:=Tryz.func212.trans (congrArg some (by kernel_rfl))
 f20:=Tryz.func213.trans (congrArg some (by kernel_rfl))
 f21:=Tryz.func214.trans (congrArg some (by kernel_rfl))
 f22:=Tryz.func215.trans (congrArg some (by kernel_rfl))
 f23:=Tryz.func216.trans (congrArg some (by kernel_rfl))
 f24:=Tryz.func217.trans (congrArg some (by kernel_rfl))
 f25:=Tryz.func282.trans (congrArg some (by kernel_rfl))
 f26:=Tryz.func283.trans (congrArg some (by kernel_rfl))
 f27:=Tryz.func239.trans (congrArg some (by kernel_rfl))
 f28:=Tryz.func293.trans (congrArg some (by kernel_rfl))
 f29:=Tryz.func302.trans (congrArg some (by kernel_rfl))
 f30:=Tryz.func218.trans (congrArg some (by kernel_rfl))
 f31:=Tryz.func219.trans (congrArg some (by kernel_rfl))
 f32:=Tryz.func220.trans (congrArg some (by kernel_rfl))
 f33:=Tryz.func221.trans (congrArg some (by kernel_rfl))
 f34:=Tryz.func284.trans (congrArg some (by kernel_rfl))
 f35:=Tryz.func168.trans (congrArg some (by kernel_rfl))
 f36:=Tryz.func285.trans (congrArg some (by kernel_rfl))
 f37:=Tryz.func286.trans (congrArg some (by kernel_rfl))
 f38:=Tryz.func287.trans (congrArg some (by kernel_rfl))
 f39:=Tryz.func298.trans (congrArg some (by kernel_rfl))
 f40:=Tryz.func299.trans (congrArg some (by kernel_rfl))
 t0:=Tryz.underlying0
 a0:=Tryz.isAgg0
 z0:=Tryz.sizeOf0
 v0:=Tryz.zeroValue0
 i0:=by kernel_rfl
 t2:=Tryz.underlying2
 a2:=Tryz.isAgg2
 z2:=Tryz.sizeOf2
 v2:=Tryz.zeroValue2
 i2:=by kernel_rfl
 t3:=Tryz.underlying3
 a3:=Tryz.isAgg3
 z3:=Tryz.sizeOf3
 v3:=Tryz.zeroValue3
 i3:=by kernel_rfl
 t4:=Tryz.underlying4
 a4:=Tryz.isAgg4
 z4:=Tryz.sizeOf4
 v4:=Tryz.zeroValue4
 i4:=by kernel_rfl
 t5:=Tryz.underlying5
 a5:=Tryz.isAgg5
 z5:=Tryz.sizeOf5
 v5:=Tryz.zeroValue5
 i5:=by kernel_rfl
 t9:=Tryz.underlying9
 a9:=Tryz.isAgg9
 z9:=Tryz.sizeOf9
 v9:=Tryz.zeroValue9
 i9:=by kernel_rfl
 t20:=Tryz.underlying20
 a20:=Tryz.isAgg20
 z20:=Tryz.sizeOf20
 v20:=Tryz.zeroValue20
 i20:=by kernel_rfl
 t21:=Tryz.underlying21
 a21:=Tryz.isAgg21
 z21:=Tryz.sizeOf21
 v21:=Tryz.zeroValue21
 i21:=by kernel_rfl
 t22:=Tryz.underlying91
 a22:=Tryz.isAgg91
 z22:=Tryz.sizeOf91
 v22:=Tryz.zeroValue91
 i22:=by kernel_rfl
 t24:=Tryz.underlying127
 a24:=Tryz.isAgg127
 z24:=Tryz.sizeOf127
 v24:=Tryz.zeroValue127
 i24:=by kernel_rfl
 t25:=Tryz.underlying128
 a25:=Tryz.isAgg128
 z25:=Tryz.sizeOf128
 v25:=Tryz.zeroValue128
 i25:=by kernel_rfl
 t34:=Tryz.underlying261
 a34:=Tryz.isAgg261
 z34:=Tryz.sizeOf261
 v34:=Tryz.zeroValue261
 i34:=by kernel_rfl
 c34:=by kernel_rfl
 t36:=Tryz.underlying154
 a36:=Tryz.isAgg154
 z36:=Tryz.sizeOf154
 v36:=Tryz.zeroValue154
 i36:=by kernel_rfl
 t37:=Tryz.underlying173
 a37:=Tryz.isAgg173
 z37:=Tryz.sizeOf173
 v37:=Tryz.zeroValue173
 i37:=by kernel_rfl
 t39:=Tryz.underlying263
 a39:=Tryz.isAgg263
 z39:=Tryz.sizeOf263
 v39:=Tryz.zeroValue263
 i39:=by kernel_rfl
 t44:=Tryz.underlying295
 a44:=Tryz.isAgg295
 z44:=Tryz.sizeOf295
 v44:=Tryz.zeroValue295
 i44:=by kernel_rfl
 t47:=Tryz.underlying241
 a47:=Tryz.isAgg241
 z47:=Tryz.sizeOf241
 v47:=Tryz.zeroValue241
 i47:=by kernel_rfl
 t48:=Tryz.underlying310
 a48:=Tryz.isAgg310
 z48:=Tryz.sizeOf310
 v48:=Tryz.zeroValue310
 i48:=by kernel_rfl
 t50:=Tryz.underlying312
 a50:=Tryz.isAgg312
 z50:=Tryz.sizeOf312
 v50:=Tryz.zeroValue312
 i50:=by kernel_rfl
 t52:=Tryz.underlying266
 a52:=Tryz.isAgg266
 z52:=Tryz.sizeOf266
 v52:=Tryz.zeroValue266
 i52:=by kernel_rfl
 t55:=Tryz.underlying268
 a55:=Tryz.isAgg268
 z55:=Tryz.sizeOf268
 v55:=Tryz.zeroValue268
 i55:=by kernel_rfl
 t59:=Tryz.underlying299
 a59:=Tryz.isAgg299
 z59:=Tryz.sizeOf299
 v59:=Tryz.zeroValue299
 i59:=by kernel_rfl
 t60:=Tryz.underlying223
 a60:=Tryz.isAgg223
 z60:=Tryz.sizeOf223
 v60:=Tryz.zeroValue223
 i60:=by kernel_rfl
 t61:=Tryz.underlying300
 a61:=Tryz.isAgg300
 z61:=Tryz.sizeOf300
 t65:=Tryz.underlying315
 a65:=Tryz.isAgg315
 z65:=Tryz.sizeOf315
 v65:=Tryz.zeroValue315
 i65:=by kernel_rfl
 t66:=Tryz.underlying316
 a66:=Tryz.isAgg316
 z66:=Tryz.sizeOf316
 v66:=Tryz.zeroValue316
 i66:=by kernel_rfl
 t67:=Tryz.underlying187
 a67:=Tryz.isAgg187
 z67:=Tryz.sizeOf187
 v67:=Tryz.zeroValue187
 i67:=by kernel_rfl
 g0:=by kernel_rfl
 m0:=by kernel_rfl
 g1:=by kernel_rfl
 m1:=by kernel_rfl
 g2:=by kernel_rfl
 m2:=by kernel_rfl
 g3:=by kernel_rfl
 m3:=by kernel_rfl
 g4:=by kernel_rfl
 m4:=by kernel_rfl}
open Go.RowKit in
theorem Tryz.strconv_ParseUint_10_at64_ok (s:ByteArray) (hmax:s.size≤9223372036854775806) (u:Nat) (h:Lib.parseUintB 64 s.data.toList=.ok u) (w:World) :
  Calls Tryz.prog 76 #[.string s,.int .i64 10,.int .i64 64] w fun e w'=>e=.returned (.tuple #[.int .u64 u,.nilIface])∧(w'=w∨w'=Lib.bytesWorld w 5 s):=Any.strconv_ParseUint_10_at64_ok Tryz.laysPu14 s hmax u h w
def Tryz.lays219_ren:Go.Shelf.Ren:=⟨fun|219=>222|217=>288|225=>289|224=>290|267=>291|266=>300|314=>301|n=>n,fun|9=>9|3=>3|4=>4|5=>5|46=>154|146=>239|51=>223|n=>n,fun|1=>5|n=>n⟩
theorem Tryz.lays219:Go.Proofs.Lays.n219 Tryz.prog Tryz.lays219_ren:={
 mixed:=by kernel_rfl
 f217:=Tryz.func288.trans (congrArg some (by kernel_rfl))
 f219:=Tryz.func222.trans (congrArg some (by kernel_rfl))
 f224:=Tryz.func290.trans (congrArg some (by kernel_rfl))
 f225:=Tryz.func289.trans (congrArg some (by kernel_rfl))
 f266:=Tryz.func300.trans (congrArg some (by kernel_rfl))
 f267:=Tryz.func291.trans (congrArg some (by kernel_rfl))
 f314:=Tryz.func301.trans (congrArg some (by kernel_rfl))
 t3:=Tryz.underlying3
 a3:=Tryz.isAgg3
 z3:=Tryz.sizeOf3
 v3:=Tryz.zeroValue3
 t4:=Tryz.underlying4
 a4:=Tryz.isAgg4
 z4:=Tryz.sizeOf4
 v4:=Tryz.zeroValue4
 t5:=Tryz.underlying5
 a5:=Tryz.isAgg5
 z5:=Tryz.sizeOf5
 v5:=Tryz.zeroValue5
 t9:=Tryz.underlying9
 a9:=Tryz.isAgg9
 z9:=Tryz.sizeOf9
 v9:=Tryz.zeroValue9
 t46:=Tryz.underlying154
 a46:=Tryz.isAgg154
 z46:=Tryz.sizeOf154
 v46:=Tryz.zeroValue154
 t51:=Tryz.underlying223
 a51:=Tryz.isAgg223
 z51:=Tryz.sizeOf223
 v51:=Tryz.zeroValue223
 t146:=Tryz.underlying239
 a146:=Tryz.isAgg239
 z146:=Tryz.sizeOf239
 v146:=Tryz.zeroValue239
 g1:=by kernel_rfl}
open Go.RowKit Go.Lib in
theorem Tryz.stringslite_Index_one (s:ByteArray) (c:UInt8) (w:World) :
  Calls Tryz.prog 222 #[.string s,.string ⟨#[c]⟩] w fun e w'=>e=.returned (.int .i64 (Lib.indexByte s.data.toList c))∧w'=w:=Any.stringslite_Index_one Tryz.lays219 s c w
def Tryz.lays99_ren:Go.Shelf.Ren:=⟨fun|99=>95|206=>166|n=>n,fun|9=>9|4=>4|3=>3|n=>n,fun|n=>n⟩
theorem Tryz.lays99:Go.Proofs.Lays.n99 Tryz.prog Tryz.lays99_ren:={
 mixed:=by kernel_rfl
 f99:=Tryz.func95.trans (congrArg some (by kernel_rfl))
 f206:=Tryz.func166.trans (congrArg some (by kernel_rfl))
 t3:=Tryz.underlying3
 a3:=Tryz.isAgg3
 z3:=Tryz.sizeOf3
 v3:=Tryz.zeroValue3
 t4:=Tryz.underlying4
 a4:=Tryz.isAgg4
 z4:=Tryz.sizeOf4
 v4:=Tryz.zeroValue4
 t9:=Tryz.underlying9
 a9:=Tryz.isAgg9
 z9:=Tryz.sizeOf9
 v9:=Tryz.zeroValue9}
open Go.RowKit Go.Lib in
theorem Tryz.strings_HasPrefix (s p:ByteArray) (w:World) :
  Calls Tryz.prog 95 #[.string s,.string p] w fun e w'=>e=.returned (.bool (Lib.hasPrefix s.data.toList p.data.toList))∧w'=w:=Any.strings_HasPrefix Tryz.lays99 s p w
def Tryz.lays101_ren:Go.Shelf.Ren:=⟨fun|101=>93|208=>163|206=>166|n=>n,fun|9=>9|4=>4|3=>3|n=>n,fun|n=>n⟩
theorem Tryz.lays101:Go.Proofs.Lays.n101 Tryz.prog Tryz.lays101_ren:={
 mixed:=by kernel_rfl
 f101:=Tryz.func93.trans (congrArg some (by kernel_rfl))
 f206:=Tryz.func166.trans (congrArg some (by kernel_rfl))
 f208:=Tryz.func163.trans (congrArg some (by kernel_rfl))
 t3:=Tryz.underlying3
 a3:=Tryz.isAgg3
 z3:=Tryz.sizeOf3
 v3:=Tryz.zeroValue3
 t4:=Tryz.underlying4
 a4:=Tryz.isAgg4
 z4:=Tryz.sizeOf4
 v4:=Tryz.zeroValue4
 t9:=Tryz.underlying9
 a9:=Tryz.isAgg9
 z9:=Tryz.sizeOf9
 v9:=Tryz.zeroValue9}
open Go.RowKit Go.Lib in
theorem Tryz.strings_TrimPrefix (s p:ByteArray) (w:World) :
  Calls Tryz.prog 93 #[.string s,.string p] w fun e w'=>e=.returned (.string ⟨(Lib.trimPrefix s.data.toList p.data.toList).toArray⟩)∧w'=w:=Any.strings_TrimPrefix Tryz.lays101 s p w
def Tryz.lays264_ren:Go.Shelf.Ren:=⟨fun|264=>154|n=>n,fun|53=>91|46=>154|n=>n,fun|n=>n⟩
theorem Tryz.lays264:Go.Proofs.Lays.n264 Tryz.prog Tryz.lays264_ren:={
 mixed:=by kernel_rfl
 f264:=Tryz.func154.trans (congrArg some (by kernel_rfl))
 t46:=Tryz.underlying154
 a46:=Tryz.isAgg154
 z46:=Tryz.sizeOf154
 v46:=Tryz.zeroValue154
 t53:=Tryz.underlying91
 a53:=Tryz.isAgg91
 z53:=Tryz.sizeOf91
 v53:=Tryz.zeroValue91}
open Go.RowKit Go.Lib in
theorem Tryz.bits_Mul64 (x y:Nat) (hx:x<18446744073709551616) (hy:y<18446744073709551616) (w:World) :
  Calls Tryz.prog 154 #[.int .u64 x,.int .u64 y] w fun e w'=>e=.returned (.tuple #[.int .u64 ((x*y/18446744073709551616:Nat):Int),.int .u64 ((x*y%18446744073709551616:Nat):Int)])∧w'=w:=Any.bits_Mul64 Tryz.lays264 x y hx hy w
end Go.Proofs
namespace Go.Proofs.YtncomlmhagaajaaGreatDoor.Mine
open Go.RowKit Go.Proofs.YtncomlmhagaajaaGreatDoorW.PrintWords Go.Proofs.YtncomlmhagaajaaGreatDoorW.PrintLast Go.Proofs.YtncomlmhagaajaaGreatDoorW.PrintMore
def joined (l:List ByteArray) (s:ByteArray):ByteArray:=⟨(Lib.join (l.map (·.data.toList)) s.data.toList).toArray⟩
def strings_Join.f (l:List ByteArray) (s:ByteArray):Option ByteArray:=if(joined l s).size≤140737488355328∧l.length≤140737488355328 then some (joined l s) else none
theorem string_place {w:World} {A:Option Addr} {l:List ByteArray} (h:Kd.C Kd.string w A l.length l) (hl:l≠[]) :
  ∃bk o,A=some ⟨bk,o,none⟩∧bk<w.heap.size∧∀(j:Nat) x,l[j]? = some x→w.cell? ⟨bk,o+j,none⟩=some (.string x):=by
 have h0:0<l.length:=List.length_pos_iff.2 hl
 obtain⟨ad,rfl,hc⟩:=h.2.2 h0
 obtain⟨bk,o,sp⟩:=ad
 have key:∀(j:Nat) x,l[j]? = some x→w.cell? ((⟨bk,o,sp⟩:Addr).add j)=some (.string x):=by
  intro j x hj
  obtain⟨c,hlen,hK,hcell⟩:=hc j x hj
  have hK':c=[.string x]:=hK
  subst hK'
  have:=hcell 0 _ rfl
  rwa [show j*Kd.string.sz+0=j from by show j*1+0=j;omega]at this
 have hsp:sp=none:=by
  have:=key 0 _ (List.getElem?_eq_getElem h0)
  simp only[Addr.add,if_true]at this
  unfold World.cell? at this
  split at this
  ·split at this
   ·cases this
   cases sp with
   | none=>rfl
   | some s=>simp_all
  cases this
 subst hsp
 have key2:∀(j:Nat) x,l[j]? = some x→w.cell? ⟨bk,o+j,none⟩=some (.string x):=by
  intro j x hj
  have:=key j x hj
  simp only[Addr.add]at this
  split at this
  ·rename_i h;subst h;exact this
  exact this
 exact⟨bk,o,rfl,World.block_lt_of_cell? w _ (key2 0 _ (List.getElem?_eq_getElem h0)),key2⟩
theorem strings_Join.calls (A0:Option Addr) (c0:Nat) (l0:List ByteArray) (a1:ByteArray) (r:ByteArray) (w:World) (hr0:Kd.C Kd.string w A0 l0.length l0) (hc0:l0.length≤c0) (h:strings_Join.f l0 a1=some r) :
  Calls Tryz.prog 90 #[.slice A0 l0.length c0,.string a1] w fun e w'=>e=.returned (.string r)∧Below w.heap.size w w':=by
 unfold strings_Join.f at h
 split at h
 ·rename_i hb
  obtain rfl:=Option.some.inj h
  rcases Classical.em (l0=[]) with e|e
  ·subst e
   refine(Tryz.strings_Join_none A0 c0 a1 w).mono ?_
   rintro e w' ⟨rfl,rfl⟩
   exact⟨rfl,Below.refl _ _⟩
  obtain⟨bk,o,rfl,hlt,hcells⟩:=string_place hr0 e
  exact Tryz.strings_Join bk o c0 l0 a1 w hcells hlt hb.2 hc0 (by simpa [joined,ByteArray.size] using hb.1)
 cases h
def bits_LeadingZeros64.f (x:Int):Option Int:=if 0≤x∧x≤18446744073709551615 then some (64-(Lib.bitLen x.toNat:Int)) else none
theorem bits_LeadingZeros64.calls (a0:Int) (r:Int) (w:World) (h:bits_LeadingZeros64.f a0=some r) :
  Calls Tryz.prog 174 #[.int .u64 a0] w fun e w'=>e=.returned (.int .i64 r)∧Drawn0 w w':=by
 unfold bits_LeadingZeros64.f at h
 split at h
 ·rename_i hc
  obtain rfl:=Option.some.inj h
  refine(Tryz.bits_LeadingZeros64 a0 w hc.1 hc.2).mono ?_
  rintro e w' ⟨rfl,rfl⟩
  exact⟨rfl,Drawn0.refl _⟩
 cases h
def bits_Len64.f (x:Int):Option Int:=if 0≤x∧x≤18446744073709551615 then some (Lib.bitLen x.toNat:Int) else none
theorem bits_Len64.calls (a0:Int) (r:Int) (w:World) (h:bits_Len64.f a0=some r) :
  Calls Tryz.prog 168 #[.int .u64 a0] w fun e w'=>e=.returned (.int .i64 r)∧Drawn0 w w':=by
 unfold bits_Len64.f at h
 split at h
 ·rename_i hc
  obtain rfl:=Option.some.inj h
  refine(Tryz.bits_Len64 a0 w hc.1 hc.2).mono ?_
  rintro e w' ⟨rfl,rfl⟩
  exact⟨rfl,Drawn0.refl _⟩
 cases h
class Up (W W':World):Prop where
 below:Below W.heap.size W W'
instance Up.rfl_ {W:World}:Up W W:=⟨Below.refl _ _⟩
instance Up.alloc_ {W W':World} [h:Up W W'] (o:Obj):Up W (W'.alloc o):=⟨h.below.alloc h.below.size o⟩
instance Up.drewN_ {W W':World} [h:Up W W'] (n:Nat):Up W (W'.drewN n):=⟨pw_below_drewN h.below n⟩
instance Up.drew_ {W W':World} [h:Up W W']:Up W W'.drew:=⟨below_drew h.below⟩
section
variable {w W W' w1:World} {g g' k:Nat} {o:Obj} [u:Up W W']
include u
theorem kbu (h:W.heap[g]? = some o):W'.heap[g]? = some o:=blk_below h u.below
theorem khu (h:Below w.heap.size w W):Below w.heap.size w W':=h.trans (u.below.mono h.size)
theorem kbb (h:Aside0 (W.heap[g]? = some o)) (hb:Below W'.heap.size W' w1):Aside0 (w1.heap[g]? = some o):=⟨blk_below (kbu h.out) hb⟩
theorem kbs (h:Aside0 (Below w.heap.size w W)) (hb:Below W'.heap.size W' w1):Aside0 (Below w.heap.size w w1):=⟨below_step (khu h.out) hb⟩
theorem kbz (hg:g'=W'.heap.size) (h:Aside0 (Below w.heap.size w W)):Aside0 (w.heap.size≤g'):=⟨by rw[hg];exact below_size (khu h.out)⟩
theorem knl (hg:g'=W'.heap.size) (h:Aside0 (W.heap[g]? = some o)):Aside0 (g≠g'):=⟨by rw[hg];exact Nat.ne_of_lt (blk_lt (kbu (W':=W') h.out))⟩
theorem kng (hg:g'=W'.heap.size) (h:Aside0 (W.heap[g]? = some o)):Aside0 (g'≠g):=⟨by rw[hg];exact Nat.ne_of_gt (blk_lt (kbu (W':=W') h.out))⟩
theorem kfb (h:Aside0 (W.heap[g]? = some o)) (hn:W'.heap.size≤k):k≠g:=Kd.freshB (kbu h.out) k hn
theorem koe (hw:Aside0 (w.heap.size≤g)) (h:Aside0 (W.heap[g]? = some o)) (hk:k<w.heap.size∨W'.heap.size≤k):k≠g:=Or.elim hk (fun hs e=>Nat.not_le.2 hs (by rw[e];exact hw.out)) (fun hn=>kfb h hn)
variable {α:Type} {d:Kd α} {e base n:Nat} {ok:Nat→Prop} {v:Value} {xs:List α} {A:Option Addr}
theorem kvu (h:Kd.V d e W base ok v xs):Kd.V d e W' base ok v xs:=Kd.V_below h u.below
theorem kvb (h:Aside0 (Kd.V d e W base ok v xs)) (hb:Below W'.heap.size W' w1):Aside0 (Kd.V d e w1 base ok v xs):=⟨Kd.V_below (kvu h.out) hb⟩
theorem kru (h:d.R e W base ok v xs):d.R e W' base ok v xs:=Kd.R_below h u.below
theorem krb (h:Aside0 (d.R e W base ok v xs)) (hb:Below W'.heap.size W' w1):Aside0 (d.R e w1 base ok v xs):=⟨Kd.R_below (kru h.out) hb⟩
end
end Go.Proofs.YtncomlmhagaajaaGreatDoor.Mine
namespace Go.Proofs.YtncomlmhagaajaaGreatDoor.Mine
open Go Go.RowKit Go.Proofs.YtncomlmhagaajaaGreatDoorW.PrintWords Go.Proofs.YtncomlmhagaajaaGreatDoorW.PrintLast Go.Proofs.YtncomlmhagaajaaGreatDoorW.PrintMore
def bmL:Nat→Nat→List Bool
  | 0,_=>[]
  | n+1,m=>Nat.beq (Nat.mod m 2) 1::bmL n (Nat.div m 2)
def bm_ (n m:Nat):Array Bool:=⟨bmL n m⟩
section
variable {P:Program} {ops:Array Oper} {Q:Exit→Act→World→Prop} {md:Region.Mode} {S:World→Prop} {ds:List Nat}
theorem pu_ {oi:Oper} {fuel:Nat} {l:Array Bool} {a:Act} {w:World} (i:Nat) (N:Tmp) (v:Value) (l':Array Bool) (hi:ops[i]? = some oi) (hN:oi.dst=some N) (hc:anyB md ops l l' i=true)
 (hQ:∀c a w,Q (.panic c) (a.put oi.dst v) w→Q (.panic c) a w) (h1:Region.wanted oi (yielded ops a.tmps)=true) (h2:∀w,(execOp a.eval oi).run P w=.ok (.value v) w) (a':Act) (ha:a.put (some N) v=a')
 (h:wpAnyLast P md ops Q S ds fuel l' a' w):wpAnyLast P md ops Q S ds (fuel+1) l a w:=pure_ l' hi hN hc hQ (Or.inl ⟨h1,h2⟩) ha h
theorem tk_ {oi:Oper} {fuel:Nat} {l:Array Bool} {a:Act} {w:World} (i:Nat) (N:Tmp) (v:Value) (l':Array Bool) (hi:ops[i]? = some oi) (hN:oi.dst=some N) (hc:takeB md ops ds l l' i=true)
 (hQ:∀c a w,Q (.panic c) (a.put oi.dst v) w→Q (.panic c) a w) (h1:Region.wanted oi (yielded ops a.tmps)=true) (h2:∀w,S w→(execOp a.eval oi).run P w=.ok (.value v) w) (hS:S w) (a':Act) (ha:a.put (some N) v=a')
 (h:wpAnyLast P md ops Q S ds fuel l' a' w):wpAnyLast P md ops Q S ds (fuel+1) l a w:=take_ l' hi hN hc hQ (Or.inl ⟨h1,h2⟩) hS ha h
theorem gd {rest:List Oper} {o:Oper} {a:Act} {W:World} (N:Tmp) (_hN:o.dst=some N) (h:wpList P ops Q (o::rest) a W):wpList P ops Q (o::rest) a W:=h
theorem gs {rest:List Oper} {o:Oper} {a:Act} {W:World} (t:TypeId) (p v:Tmp) (_ho:o.op=.store t (.tmp p) (.tmp v)) (h:wpList P ops Q (o::rest) a W):wpList P ops Q (o::rest) a W:=h
end
theorem hv.{u} {α:Type u} {l l' m:List α} {n:Nat} {x:Option α} (h:Aside0 (l=l')) (e:(l'++m)[n]? = x):(l++m)[n]? = x:=by rw[h.out];exact e
theorem lb {a b:Nat} (h:Nat.ble a b=true):a≤b:=Nat.le_of_ble_eq_true h
theorem kss {α:Type}:(∀(xs:List α) (i:Nat) (a:α),xs.toArray.setIfInBounds i a=(xs.set i a).toArray)∧(∀(xs:List α) (x a:α),(x::xs).set 0 a=a::xs)∧(∀(xs:List α) (x a:α) (i:Nat),(x::xs).set (i+1) a=x::xs.set i a):=
 ⟨fun _ _ _=>by simp,fun _ _ _=>rfl,fun _ _ _ _=>rfl⟩
section
variable {P:Program} {ops:Array Oper} {Q:Exit→Act→World→Prop} {md:Region.Mode} {S:World→Prop} {ds:List Nat}
theorem kgo {oi:Oper} {N:Option Tmp} {a:Act} {w:World} {K:Act→World→Prop} {f:FuncId} {fn:Func} {ar:Array Operand} {ts:Array TypeId} (hf:P.funcs[f]? = some fn) (args:Array Value)
  (hw:Region.wanted oi (yielded ops a.tmps)=true) (hN:oi.dst=N) (hop:oi.op=.call {callee:=.value (.func f),args:=ar,argTypes:=ts})
  (h:Calls P f args w fun e w'=>∃v,e=.returned v∧K (a.put N v) w') (hargs:ar.map a.eval=args:=by(try simp only[List.map_toArray,List.map_cons,List.map_nil]);first|done|rfl|(simp only[List.length_drop,List.length_take];rfl)) (hname:(fn.name == "runtime.NumGoroutine")=false:=by kernel_rfl) (hb:fn.body.isSome=true:=by rfl):if Region.wanted oi (yielded ops a.tmps)=true then Oper.wp P oi a w K Q else K (a.put N undef) w:=
 goes_ hf hname hb args hw hN hop hargs h
theorem kgl {rest:List Oper} {oi:Oper} {a:Act} {w:World} (N:Option Tmp) (hd:oi.dst=N) (hg:oi.guard=none) {f:FuncId} {fn:Func} {ar:Array Operand} {ts:Array TypeId} (hf:P.funcs[f]? = some fn) (args:Array Value)
  (hop:oi.op=.call {callee:=.value (.func f),args:=ar,argTypes:=ts})
  (h:Calls P f args w fun e w'=>∃v,e=.returned v∧wpList P ops Q rest (a.put N v) w') (hargs:ar.map a.eval=args:=by(try simp only[List.map_toArray,List.map_cons,List.map_nil]);first|done|rfl|(simp only[List.length_drop,List.length_take];rfl)) (hname:(fn.name == "runtime.NumGoroutine")=false:=by kernel_rfl) (hb:fn.body.isSome=true:=by rfl):wpList P ops Q (oi::rest) a w:=
 goesL_ N hd hg hf hname hb args hop hargs h
theorem kbe {rest:List Oper} {o:Oper} {a:Act} {W:World} (N:Tmp) (cs:Array Value) (t:TypeId)
  (h:∀g,g=W.heap.size→∀w1,w1.heap[g]? = some (.cells cs t (0,0))→Below W.heap.size W w1→wpList P ops Q rest (a.put o.dst (.pointer (some ⟨g,0,none⟩))) w1)
  (hd:o.dst=some N:=by rfl) (hgd:o.guard=none:=by rfl) (hrun:(execOp a.eval o).run P W=.ok (.value (.pointer (some ⟨W.heap.size,0,none⟩))) (W.alloc (.cells cs t (0,0))):=by first|(go_simp;done)|(go_simp;rfl)):wpList P ops Q (o::rest) a W:=
 box_event hgd hd hrun h
end
class UpO (W:outParam World) (W':World):Prop where
 below:Below W.heap.size W W'
instance (priority:=low) UpO.rfl_ {W:World}:UpO W W:=⟨Below.refl _ _⟩
instance UpO.alloc_ {W W':World} [h:UpO W W'] (o:Obj):UpO W (W'.alloc o):=⟨h.below.alloc h.below.size o⟩
instance UpO.drewN_ {W W':World} [h:UpO W W'] (n:Nat):UpO W (W'.drewN n):=⟨pw_below_drewN h.below n⟩
instance UpO.drew_ {W W':World} [h:UpO W W']:UpO W W'.drew:=⟨below_drew h.below⟩
theorem kfa {W W':World} [u:UpO W W'] {g:Nat} {t:TypeId} {cs:Array Value} {p:Addr} {v:Value} (hp:Aside0 (g≠p.block)) (h:W.heap[g]? = some (.cells cs t (0,0))):(W'.setCell p v).heap[g]? = some (.cells cs t (0,0)):=blk_far (blk_below h u.below) hp.out v
theorem kpu {W W':World} [u:UpO W W'] {g:Nat} {t:TypeId} (cs:Array Value) {cs':Array Value} (i:Nat) {v:Value} (h:W.heap[g]? = some (.cells cs t (0,0))) (e:cs.setIfInBounds i v=cs':=by rfl):(W'.setCell ⟨g,i,none⟩ v).heap[g]? = some (.cells cs' t (0,0)):=blk_put (blk_below h u.below) i v e
end Go.Proofs.YtncomlmhagaajaaGreatDoor.Mine
namespace Go.Proofs.YtncomlmhagaajaaGreatDoor.Mine
open Go.RowKit Go.Proofs.YtncomlmhagaajaaGreatDoorW.PrintWords Go.Proofs.YtncomlmhagaajaaGreatDoorW.PrintLast Go.Proofs.YtncomlmhagaajaaGreatDoorW.PrintMore
def strings_CutPrefixG.f (s p:ByteArray):Option (ByteArray×Bool):=some (⟨(Lib.trimPrefix s.data.toList p.data.toList).toArray⟩,Lib.hasPrefix s.data.toList p.data.toList)
theorem strings_CutPrefixG.calls (a0 a1:ByteArray) (r1:ByteArray) (r2:Bool) (w:World) (h:strings_CutPrefixG.f a0 a1=some (r1,r2)) :
  Calls Tryz.prog 73 #[.string a0,.string a1] w fun e w'=>e=.returned (.tuple #[.string r1,.bool r2])∧Drawn0 w w':=by
 unfold strings_CutPrefixG.f at h
 obtain⟨rfl,rfl⟩:=Prod.mk.inj (Option.some.inj h)
 refine(Tryz.strings_CutPrefix a0 a1 w).mono ?_
 rintro e w' ⟨rfl,rfl⟩
 exact⟨rfl,Drawn0.refl _⟩
def strings_TrimG.f (s c:ByteArray):Option ByteArray:=if s.size≤9223372036854775807∧c=⟨#[48,49,50,51,52,53,54,55,56,57]⟩ then some ⟨(Lib.trimS s.data.toList [48,49,50,51,52,53,54,55,56,57]).toArray⟩ else none
theorem strings_TrimG.calls (a0 a1:ByteArray) (r:ByteArray) (w:World) (h:strings_TrimG.f a0 a1=some r) :
  Calls Tryz.prog 74 #[.string a0,.string a1] w fun e w'=>e=.returned (.string r)∧Below w.heap.size w w':=by
 unfold strings_TrimG.f at h
 split at h
 ·rename_i hc
  obtain rfl:=Option.some.inj h
  obtain⟨hs,rfl⟩:=hc
  exact Any.strings_Trim_laid Tryz.lays160 X0 a0 _ w hs J0 (ascii_of_all J0)
 cases h
def strings_TrimLeftG.f (s c:ByteArray):Option ByteArray:=if c=⟨#[48]⟩ then some ⟨(Lib.trimLeftS s.data.toList [48]).toArray⟩ else none
theorem strings_TrimLeftG.calls (a0 a1:ByteArray) (r:ByteArray) (w:World) (h:strings_TrimLeftG.f a0 a1=some r) :
  Calls Tryz.prog 75 #[.string a0,.string a1] w fun e w'=>e=.returned (.string r)∧Below w.heap.size w w':=by
 unfold strings_TrimLeftG.f at h
 split at h
 ·rename_i hc
  obtain rfl:=Option.some.inj h
  subst hc
  exact Any.strings_TrimLeft_laid Tryz.lays161 X0 a0 _ w J0 (ascii_of_all J0)
 cases h
def strconv_ParseUintG.f (s:ByteArray) (b z:Int):Option (Int×Option Int):=if b=10∧z=64∧s.size≤9223372036854775806∧s.data.toList≠[] then(match Lib.parseUint10 0 s.data.toList with|.ok n=>some ((n:Int),none)|_=>none) else none
theorem strconv_ParseUintG.calls (a0:ByteArray) (a1 a2:Int) (r1:Int) (r2:Option Int) (w:World) (h:strconv_ParseUintG.f a0 a1 a2=some (r1,r2)) :
  Calls Tryz.prog 76 #[.string a0,.int .i64 a1,.int .i64 a2] w fun e w'=>e=.returned (.tuple #[.int .u64 r1,.nilIface])∧Below w.heap.size w w':=by
 unfold strconv_ParseUintG.f at h
 split at h
 ·rename_i hc
  obtain⟨rfl,rfl,hm,hn⟩:=hc
  split at h
  ·rename_i n hp
   obtain⟨rfl,rfl⟩:=Prod.mk.inj (Option.some.inj h)
   refine(Tryz.strconv_ParseUint_10_at64_ok a0 hm n (by rw[Lib.parseUintB_64];unfold Lib.parseMag;rw[if_neg hn];exact hp) w).mono ?_
   rintro e w' ⟨rfl,hw⟩
   refine⟨rfl,?_⟩
   rcases hw with rfl|rfl
   ·exact Below.refl _ _
   exact bytes_below (Below.refl _ _) (Nat.le_refl _) 5 a0
  cases h
 cases h
theorem ratio_plain1 (c:Int) (w:World):Calls Tryz.prog 165 #[.int .i32 c] w fun e w'=>e=.returned (.bool (decide (c<48) || decide (c>57)))∧w'=w:=by
 by_cases h1:c<48
 ·go_enter Tryz.func165,Tryz.ntmps165
  go_wp2
  go_ret
  exact⟨by simp[h1],rfl⟩
 by_cases h2:c>57
 ·go_enter Tryz.func165,Tryz.ntmps165
  go_wp2
  go_ret
  exact⟨Z1,rfl⟩
 go_enter Tryz.func165,Tryz.ntmps165
 go_wp2
 go_ret
 exact⟨U6,rfl⟩
def dgB (b:UInt8):Bool:=decide (48≤b.toNat∧b.toNat≤57)
def dgFrom (s:ByteArray) (pos:Nat):Bool:=(s.data.toList.drop pos).all dgB
theorem dgFrom_end (s:ByteArray) (pos:Nat) (h:¬pos<s.size):dgFrom s pos=true:=by
 unfold dgFrom
 rw[List.drop_eq_nil_of_le (by rw[Array.length_toList];exact Nat.le_of_not_lt h)]
 rfl
theorem dgFrom_at (s:ByteArray) (pos:Nat) (h:pos<s.size):dgFrom s pos=(dgB (s[pos]'h)&&dgFrom s (pos+1)):=by
 unfold dgFrom
 rw[List.drop_eq_getElem_cons (by rw[Array.length_toList];exact h)]
 rfl
theorem indexFunc_plain (s:ByteArray) (w:World):Calls Tryz.prog 223 #[.string s,.func (.func 165) #[] #[],.bool true] w fun e w'=>(∃i:Int,e=.returned (.int .i64 i)∧(i<0↔dgFrom s 0=true))∧Below w.heap.size w w':=by
 go_enter Tryz.func223,Tryz.ntmps223
 go_wp2
 go_loopw [] (fun wr=>∃(pos:Nat),wr.heap[w.heap.size]? = some (.stringIter s pos)∧Below w.heap.size w wr∧(dgFrom s pos=dgFrom s 0)) (fun wr=>s.size-wr.iterPos w.heap.size)
 case atStart=>
  refine⟨0,World.iter_heap w s 0,(Below.refl _ w).alloc (Nat.le_refl _) _,rfl⟩
 case round=>
  obtain⟨pos,hit,hbw,hd⟩:=hrel
  have hsz:w.heap.size<wr.heap.size:=(Array.getElem?_eq_some_iff.1 hit).1
  by_cases hp:pos<s.size
  ·have hnx:∀ty,(Instr.next (.pointer (some ⟨w.heap.size,0,none⟩)) true ty).run Tryz.prog wr=_:=fun ty=>Lib.run_next_any_at wr w.heap.size s pos ty hit hp
   have aa:=Lib.iterAt_heap wr w.heap.size s pos (pos+(Utf8.decode s pos).2) hit
   have ab:=Lib.below_iterAt hbw (k:=w.heap.size) Z0 s (pos+(Utf8.decode s pos).2)
   rw[dgFrom_at s pos hp]at hd
   have ha:dgB (s[pos]'hp)=true→Utf8.decode s pos=((s[pos]'hp).toNat,1):=fun h=>decode_ascii s pos hp (by simp only[dgB,decide_eq_true_eq]at h;omega)
   have hb:dgB (s[pos]'hp)=false→((Utf8.decode s pos).1:Int)<48∨((Utf8.decode s pos).1:Int)>57:=fun h=>by
    simp only[dgB,decide_eq_false_iff_not]at h
    by_cases hc:(s[pos]'hp).toNat<128
    ·rw[decode_ascii s pos hp hc];simp only;omega
    have:=(decode_high s pos hp Z0).1
    omega
   cases hB:dgB (s[pos]'hp) with
   | true=>
    have hde:=ha hB
    rw[hB,Bool.true_and]at hd
    have hr:(decide ((((s[pos]'hp).toNat:Nat):Int)<48) || decide ((((s[pos]'hp).toNat:Nat):Int)>57))=false:=by
     simp only[dgB,decide_eq_true_eq]at hB;simp only[Bool.or_eq_false_iff,decide_eq_false_iff_not];omega
    go_wp2_with (go_at_call 165;refine(ratio_plain1 _ _).mono ?_;rintro e W1 ⟨rfl,rfl⟩;rw[hr])
    go_roundw
    case rel=>
     rw[hde]at aa ab
     exact⟨pos+1,aa,ab,hd⟩
    case measure=>
     rw[hde]at aa
     simp only[World.iterPos,aa,hit]
     omega
   | false=>
    rw[hB,Bool.false_and]at hd
    have hr:(decide (((Utf8.decode s pos).1:Int)<48) || decide (((Utf8.decode s pos).1:Int)>57))=true:=by
     rcases hb hB with h|h<;>simp[h]
    go_wp2_with (go_at_call 165;refine(ratio_plain1 _ _).mono ?_;rintro e W1 ⟨rfl,rfl⟩;rw[hr])
    go_ret
    refine⟨⟨(pos:Int),rfl,?_⟩,ab⟩
    rw[←hd];simp
  have hnx:∀ty,(Instr.next (.pointer (some ⟨w.heap.size,0,none⟩)) true ty).run Tryz.prog wr=_:=fun ty=>Lib.run_next_end_at wr w.heap.size s pos ty hit hp
  go_wp2
  go_ret
  refine⟨⟨-1,rfl,?_⟩,hbw⟩
  rw[←hd,dgFrom_end s pos hp];simp
theorem indexFunc_call (s:ByteArray) (w:World):Calls Tryz.prog 164 #[.string s,.func (.func 165) #[] #[]] w fun e w'=>(∃i:Int,e=.returned (.int .i64 i)∧(i<0↔dgFrom s 0=true))∧Below w.heap.size w w':=by
 go_enter Tryz.func164,Tryz.ntmps164
 go_wp2_with (go_at_call 223;refine(indexFunc_plain s _).mono ?_;rintro e W1 ⟨⟨i,rfl,hi⟩,hb⟩)
 go_ret
 exact⟨⟨i,rfl,hi⟩,hb⟩
def ratio_plainG.f (s:ByteArray):Option Bool:=some (!s.toList.isEmpty&&dgFrom s 0)
theorem ratio_plainG.calls (a0:ByteArray) (r:Bool) (w:World) (h:ratio_plainG.f a0=some r):Calls Tryz.prog 94 #[.string a0] w fun e w'=>e=.returned (.bool r)∧Below w.heap.size w w':=by
 obtain rfl:=Option.some.inj h
 by_cases he:a0.toList=[]
 ·have he2:a0.toList.isEmpty=true:=by rw[he];rfl
  go_enter Tryz.func94,Tryz.ntmps94
  go_wp2
  go_ret
  exact⟨by rw[he2];rfl,Below.refl _ _⟩
 have he2:a0.toList.isEmpty=false:=by cases h:a0.toList with|nil=>exact absurd h he|cons=>rfl
 rw[he2]
 cases hd:dgFrom a0 0 with
 | true=>
  go_enter Tryz.func94,Tryz.ntmps94
  go_wp2_with (go_at_call 164;refine(indexFunc_call a0 _).mono ?_;rintro e W1 ⟨⟨i,rfl,hi⟩,hb⟩;have hi0:i<0:=hi.2 hd)
  go_ret
  exact⟨rfl,hb⟩
 | false=>
  go_enter Tryz.func94,Tryz.ntmps94
  go_wp2_with (go_at_call 164;refine(indexFunc_call a0 _).mono ?_;rintro e W1 ⟨⟨i,rfl,hi⟩,hb⟩;have hi0:¬i<0:=fun h=>by rw[hi.1 h]at hd;cases hd)
  go_ret
  exact⟨rfl,hb⟩
theorem cut_ok (s:ByteArray) (n:Nat) (hi:Lib.indexByte s.data.toList 47=n) (hn:n<s.size) (hs:s.size<70368744177664) (w:World):Calls Tryz.prog 162 #[.string s,.string ⟨#[47]⟩] w fun e w'=>e=.returned (.tuple #[.string (s.extract 0 n),.string (s.extract (n+1) s.size),.bool true])∧Drawn0 w w':=by
 have c1:(0:Int)≤↑n:=by omega
 have c2:(↑n:Int)≤↑s.size:=by omega
 have hw:wrap64 ((n:Int)+1)=n+1:=by unfold wrap64;omega
 have hw2:IntKind.i64.wrap ((n:Int)+1)=n+1:=by rw[i64_w];exact hw
 have c3:(0:Int)≤↑n+1:=by omega
 have c4:(↑n+1:Int)≤↑s.size:=by omega
 go_enter Tryz.func162,Tryz.ntmps162
 go_wp2_with (go_at_call 222;refine(Tryz.stringslite_Index_one s 47 _).mono ?_;rintro e W1 ⟨rfl,rfl⟩;rw[hi])
 go_region
 go_wp2
 go_ret3
 exact⟨rfl,⟨⟨1,rfl⟩⟩⟩
theorem cut_no (s:ByteArray) (hi:Lib.indexByte s.data.toList 47<0) (w:World):Calls Tryz.prog 162 #[.string s,.string ⟨#[47]⟩] w fun e w'=>e=.returned (.tuple #[.string s,.string ⟨#[]⟩,.bool false])∧Drawn0 w w':=by
 go_enter Tryz.func162,Tryz.ntmps162
 go_wp2_with (go_at_call 222;refine(Tryz.stringslite_Index_one s 47 _).mono ?_;rintro e W1 ⟨rfl,rfl⟩)
 go_ret3
 exact⟨rfl,Drawn0.refl _⟩
def strings_CutG.f (s p:ByteArray):Option (ByteArray×ByteArray×Bool):=
  if p.data.toList=[47]∧s.size<70368744177664 then
    (if Lib.indexByte s.data.toList 47<0 then some (s,⟨#[]⟩,false)
     else some (s.extract 0 (Lib.indexByte s.data.toList 47).toNat,s.extract ((Lib.indexByte s.data.toList 47).toNat+1) s.size,true))
  else none
theorem strings_CutG.calls (a0 a1:ByteArray) (r1 r2:ByteArray) (r3:Bool) (w:World) (h:strings_CutG.f a0 a1=some (r1,r2,r3)) :
  Calls Tryz.prog 92 #[.string a0,.string a1] w fun e w'=>e=.returned (.tuple #[.string r1,.string r2,.bool r3])∧Drawn0 w w':=by
 unfold strings_CutG.f at h
 split at h
 ·rename_i hc
  obtain⟨hp,hs⟩:=hc
  obtain rfl:a1=⟨#[47]⟩:=by
   obtain⟨⟨l⟩⟩:=a1
   simp only at hp
   rw[hp]
  have key:Calls Tryz.prog 162 #[.string a0,.string ⟨#[47]⟩] w fun e w'=>e=.returned (.tuple #[.string r1,.string r2,.bool r3])∧Drawn0 w w':=by
   split at h
   ·rename_i hi
    simp only[Option.some.injEq,Prod.mk.injEq]at h
    obtain⟨rfl,rfl,rfl⟩:=h
    exact cut_no a0 hi w
   rename_i hi
   simp only[Option.some.injEq,Prod.mk.injEq]at h
   obtain⟨rfl,rfl,rfl⟩:=h
   obtain⟨n,hn⟩:∃n:Nat,Lib.indexByte a0.data.toList 47=n:=⟨(Lib.indexByte a0.data.toList 47).toNat,Z0⟩
   have hlt:n<a0.size:=by
    have:=(Lib.indexByte_some hn).1
    have:=(List.getElem?_eq_some_iff.1 this).1
    rwa [Array.length_toList]at this
   rw[hn]
   exact cut_ok a0 n hn hlt hs w
  clear h
  go_enter Tryz.func92,Tryz.ntmps92
  go_wp2_with (go_at_call 162;refine key.mono ?_;rintro e W1 ⟨rfl,hb⟩)
  go_ret3
  exact⟨rfl,hb⟩
 cases h
def strings_TrimPrefixG.f (s p:ByteArray):Option ByteArray:=some ⟨(Lib.trimPrefix s.data.toList p.data.toList).toArray⟩
theorem strings_TrimPrefixG.calls (a0 a1:ByteArray) (r:ByteArray) (w:World) (h:strings_TrimPrefixG.f a0 a1=some r) :
  Calls Tryz.prog 93 #[.string a0,.string a1] w fun e w'=>e=.returned (.string r)∧Drawn0 w w':=by
 obtain rfl:=Option.some.inj h
 refine(Tryz.strings_TrimPrefix a0 a1 w).mono ?_
 intro e w' h
 obtain⟨rfl,h2⟩:=h
 exact⟨rfl,by first|(obtain rfl:=h2;exact Drawn0.refl _)|(obtain⟨n,rfl⟩:=h2;exact⟨⟨n,rfl⟩⟩)⟩
def strings_HasPrefixG.f (s p:ByteArray):Option Bool:=some (Lib.hasPrefix s.data.toList p.data.toList)
theorem strings_HasPrefixG.calls (a0 a1:ByteArray) (r:Bool) (w:World) (h:strings_HasPrefixG.f a0 a1=some r) :
  Calls Tryz.prog 95 #[.string a0,.string a1] w fun e w'=>e=.returned (.bool r)∧Drawn0 w w':=by
 obtain rfl:=Option.some.inj h
 refine(Tryz.strings_HasPrefix a0 a1 w).mono ?_
 rintro e w' ⟨rfl,rfl⟩
 exact⟨rfl,Drawn0.refl _⟩
end Go.Proofs.YtncomlmhagaajaaGreatDoor.Mine
namespace Go.Proofs.YtncomlmhagaajaaGreatDoor.PRp
open Go.RowKit Go.Proofs.YtncomlmhagaajaaGreatDoorW.PrintWords Go.Proofs.YtncomlmhagaajaaGreatDoorW.PrintLast Go.Proofs.YtncomlmhagaajaaGreatDoorW.PrintMore
open Go.Proofs.YtncomlmhagaajaaGreatDoor.Mine
attribute [local go_sem] max2_int min2_int max_two min_two max_three min_three max_four min_four
def errW:Option Int→Value
 | none=>.nilIface
 | some c=>.iface 261 (.int .i64 c)
theorem errW_none:errW none=.nilIface:=rfl
theorem errW_some (c:Int):errW (some c)=.iface 261 (.int .i64 c):=rfl
theorem info9:(Tryz.prog.info? 9).map (fun i=>(i.zero,i.size,i.bytes))=some (some (.string ⟨#[]⟩),1,16):=by kernel_rfl
theorem info67:(Tryz.prog.info? 67).map (fun i=>(i.zero,i.size,i.bytes))=some (some (.agg #[(.bool false),(.slice none 0 0),(.bool false),(.slice none 0 0)]),4,64):=by kernel_rfl
theorem info83:(Tryz.prog.info? 83).map (fun i=>(i.zero,i.size,i.bytes))=some (some (.int .u16 0),1,2):=by kernel_rfl
theorem info91:(Tryz.prog.info? 91).map (fun i=>(i.zero,i.size,i.bytes))=some (some (.int .u64 0),1,8):=by kernel_rfl
structure S25 where
 f0:Bool
 f1:(List Int)
def z25:S25:=⟨false,([]:List Int)⟩
def k25:Kd S25:=Kd.iso (Kd.pair Kd.bool (Kd.slice 91 (Kd.int .u64))) (fun x:S25=>(x.f0,x.f1))
theorem k25_heap:Kd.Heap k25:=Kd.heap_iso _ (Kd.heap_pair Kd.heap_bool (Kd.heap_slice 91 (Kd.heap_int .u64)))
theorem k25_open {w:World} {x:S25} {cs:List Value} (h:k25.K w x cs):∃A1 c1,cs=[.bool x.f0,.slice A1 x.f1.length c1]∧x.f1.length≤c1∧(Kd.int .u64).C w A1 x.f1.length x.f1:=by
 obtain⟨_,_,rfl,rfl,⟨A1,c1,rfl,l1,g1⟩⟩:=h
 exact⟨A1,c1,rfl,l1,g1⟩
theorem k25_mk (w:World) (x:S25) {A1:Option Addr} {c1:Nat} (l1:x.f1.length≤c1) (g1:(Kd.int .u64).C w A1 x.f1.length x.f1):k25.K w x [.bool x.f0,.slice A1 x.f1.length c1]:=⟨[.bool x.f0],[.slice A1 x.f1.length c1],rfl,rfl,⟨A1,c1,rfl,l1,g1⟩⟩
def rd_T25 (xs:List S25) (i:Int):S25:=xs.getD i.toNat z25
theorem at_T25 {w:World} {A:Option Addr} {n:Nat} {xs:List S25} (h:Kd.C k25 w A n xs) (i:Int) (h0:0≤i) (h1:i<n):∃ad A1 c1,A=some ad∧w.cell? (ad.add (i.toNat*2))=some (.bool (rd_T25 xs i).f0)∧w.cell? ⟨(ad.add (i.toNat*2)).block,(ad.add (i.toNat*2)).off+1,none⟩=some (.slice A1 (rd_T25 xs i).f1.length c1)∧(rd_T25 xs i).f1.length≤c1∧(Kd.int .u64).C w A1 (rd_T25 xs i).f1.length (rd_T25 xs i).f1:=by
 obtain⟨ad,c,e,_,hK,hc0⟩:=Kd.C_get h z25 i h0 h1
 have hc:∀j u,c[j]? = some u→w.cell? (ad.add (i.toNat*2+j))=some u:=hc0
 obtain⟨A1,c1,rfl,l1,g1⟩:=k25_open hK
 exact⟨ad,A1,c1,e,hc 0 _ rfl,F7,l1,g1⟩
structure S27 where
 f0:S25
 f1:(List Int)
def z27:S27:=⟨z25,([]:List Int)⟩
def k27:Kd S27:=Kd.iso (Kd.pair k25 (Kd.slice 91 (Kd.int .u64))) (fun x:S27=>(x.f0,x.f1))
theorem k27_heap:Kd.Heap k27:=Kd.heap_iso _ (Kd.heap_pair k25_heap (Kd.heap_slice 91 (Kd.heap_int .u64)))
theorem k27_open {w:World} {x:S27} {cs:List Value} (h:k27.K w x cs):∃A1 c1 A2 c2,cs=[.bool x.f0.f0,.slice A1 x.f0.f1.length c1,.slice A2 x.f1.length c2]∧x.f0.f1.length≤c1∧(Kd.int .u64).C w A1 x.f0.f1.length x.f0.f1∧x.f1.length≤c2∧(Kd.int .u64).C w A2 x.f1.length x.f1:=by
 obtain⟨_,_,rfl,s0,⟨A2,c2,rfl,l2,g2⟩⟩:=h
 obtain⟨A1,c1,rfl,l1,g1⟩:=k25_open s0
 exact⟨A1,c1,A2,c2,rfl,l1,g1,l2,g2⟩
theorem k27_mk (w:World) (x:S27) {A1:Option Addr} {c1:Nat} (l1:x.f0.f1.length≤c1) (g1:(Kd.int .u64).C w A1 x.f0.f1.length x.f0.f1) {A2:Option Addr} {c2:Nat} (l2:x.f1.length≤c2) (g2:(Kd.int .u64).C w A2 x.f1.length x.f1):k27.K w x [.bool x.f0.f0,.slice A1 x.f0.f1.length c1,.slice A2 x.f1.length c2]:=⟨[.bool x.f0.f0,.slice A1 x.f0.f1.length c1],[.slice A2 x.f1.length c2],rfl,(k25_mk w x.f0 l1 g1),⟨A2,c2,rfl,l2,g2⟩⟩
theorem k27_openF {W:World} {ok:Nat→Prop} {x:S27} {cs:List Value} (h:Kd.FK k27 W ok x cs):∃A1 c1 A2 c2,cs=[.bool x.f0.f0,.slice A1 x.f0.f1.length c1,.slice A2 x.f1.length c2]∧x.f0.f1.length≤c1∧Kd.F (Kd.int .u64) W ok A1 x.f0.f1.length x.f0.f1∧x.f1.length≤c2∧Kd.F (Kd.int .u64) W ok A2 x.f1.length x.f1:=by
 obtain⟨A1,c1,A2,c2,rfl,l1,_,l2,_⟩:=k27_open (Kd.FK_now h)
 exact⟨A1,c1,A2,c2,rfl,l1,(fun W' hW=>by obtain⟨A1_,c1_,A2_,c2_,he,l1_,g1_,l2_,g2_⟩:=k27_open (h W' hW);injection (Option.some.inj (show some (Value.slice A1 x.f0.f1.length c1)=some (Value.slice A1_ x.f0.f1.length c1_) from congrArg (fun l=>l[1]?) he)) with ha_ _ _;rw[ha_];exact g1_),l2,(fun W' hW=>by obtain⟨A1_,c1_,A2_,c2_,he,l1_,g1_,l2_,g2_⟩:=k27_open (h W' hW);injection (Option.some.inj (show some (Value.slice A2 x.f1.length c2)=some (Value.slice A2_ x.f1.length c2_) from congrArg (fun l=>l[2]?) he)) with ha_ _ _;rw[ha_];exact g2_)⟩
theorem k27_mkF (W:World) (ok:Nat→Prop) (x:S27) {A1:Option Addr} {c1:Nat} (l1:x.f0.f1.length≤c1) (g1:Kd.F (Kd.int .u64) W ok A1 x.f0.f1.length x.f0.f1) {A2:Option Addr} {c2:Nat} (l2:x.f1.length≤c2) (g2:Kd.F (Kd.int .u64) W ok A2 x.f1.length x.f1):Kd.FK k27 W ok x [.bool x.f0.f0,.slice A1 x.f0.f1.length c1,.slice A2 x.f1.length c2]:=fun W2 hW=>k27_mk W2 x l1 (g1 W2 hW) l2 (g2 W2 hW)
def rd_T27 (xs:List S27) (i:Int):S27:=xs.getD i.toNat z27
theorem at_T27 {w:World} {A:Option Addr} {n:Nat} {xs:List S27} (h:Kd.C k27 w A n xs) (i:Int) (h0:0≤i) (h1:i<n):∃ad A1 c1 A2 c2,A=some ad∧w.cell? (ad.add (i.toNat*3))=some (.bool (rd_T27 xs i).f0.f0)∧w.cell? ⟨(ad.add (i.toNat*3)).block,(ad.add (i.toNat*3)).off+1,none⟩=some (.slice A1 (rd_T27 xs i).f0.f1.length c1)∧w.cell? ⟨(ad.add (i.toNat*3)).block,(ad.add (i.toNat*3)).off+2,none⟩=some (.slice A2 (rd_T27 xs i).f1.length c2)∧(rd_T27 xs i).f0.f1.length≤c1∧(Kd.int .u64).C w A1 (rd_T27 xs i).f0.f1.length (rd_T27 xs i).f0.f1∧(rd_T27 xs i).f1.length≤c2∧(Kd.int .u64).C w A2 (rd_T27 xs i).f1.length (rd_T27 xs i).f1:=by
 obtain⟨ad,c,e,_,hK,hc0⟩:=Kd.C_get h z27 i h0 h1
 have hc:∀j u,c[j]? = some u→w.cell? (ad.add (i.toNat*3+j))=some u:=hc0
 obtain⟨A1,c1,A2,c2,rfl,l1,g1,l2,g2⟩:=k27_open hK
 exact⟨ad,A1,c1,A2,c2,e,hc 0 _ rfl,F7,J8,l1,g1,l2,g2⟩
structure S65 where
 f0:S25
def z65:S65:=⟨z25⟩
def k65:Kd S65:=Kd.iso k25 (fun x:S65=>x.f0)
theorem k65_open {w:World} {x:S65} {cs:List Value} (h:k65.K w x cs):∃A1 c1,cs=[.bool x.f0.f0,.slice A1 x.f0.f1.length c1]∧x.f0.f1.length≤c1∧(Kd.int .u64).C w A1 x.f0.f1.length x.f0.f1:=by
 have s0:_:=h
 obtain⟨A1,c1,rfl,l1,g1⟩:=k25_open s0
 exact⟨A1,c1,rfl,l1,g1⟩
theorem k65_mk (w:World) (x:S65) {A1:Option Addr} {c1:Nat} (l1:x.f0.f1.length≤c1) (g1:(Kd.int .u64).C w A1 x.f0.f1.length x.f0.f1):k65.K w x [.bool x.f0.f0,.slice A1 x.f0.f1.length c1]:=(k25_mk w x.f0 l1 g1)
structure S67 where
 f0:S65
 f1:S65
def z67:S67:=⟨z65,z65⟩
def k67:Kd S67:=Kd.iso (Kd.pair k65 k65) (fun x:S67=>(x.f0,x.f1))
theorem k67_open {w:World} {x:S67} {cs:List Value} (h:k67.K w x cs):∃A1 c1 A3 c3,cs=[.bool x.f0.f0.f0,.slice A1 x.f0.f0.f1.length c1,.bool x.f1.f0.f0,.slice A3 x.f1.f0.f1.length c3]∧x.f0.f0.f1.length≤c1∧(Kd.int .u64).C w A1 x.f0.f0.f1.length x.f0.f0.f1∧x.f1.f0.f1.length≤c3∧(Kd.int .u64).C w A3 x.f1.f0.f1.length x.f1.f0.f1:=by
 obtain⟨_,_,rfl,s0,s2⟩:=h
 obtain⟨A1,c1,rfl,l1,g1⟩:=k65_open s0
 obtain⟨A3,c3,rfl,l3,g3⟩:=k65_open s2
 exact⟨A1,c1,A3,c3,rfl,l1,g1,l3,g3⟩
theorem k67_mk (w:World) (x:S67) {A1:Option Addr} {c1:Nat} (l1:x.f0.f0.f1.length≤c1) (g1:(Kd.int .u64).C w A1 x.f0.f0.f1.length x.f0.f0.f1) {A3:Option Addr} {c3:Nat} (l3:x.f1.f0.f1.length≤c3) (g3:(Kd.int .u64).C w A3 x.f1.f0.f1.length x.f1.f0.f1):k67.K w x [.bool x.f0.f0.f0,.slice A1 x.f0.f0.f1.length c1,.bool x.f1.f0.f0,.slice A3 x.f1.f0.f1.length c3]:=⟨[.bool x.f0.f0.f0,.slice A1 x.f0.f0.f1.length c1],[.bool x.f1.f0.f0,.slice A3 x.f1.f0.f1.length c3],rfl,(k65_mk w x.f0 l1 g1),(k65_mk w x.f1 l3 g3)⟩
theorem k67_openF {W:World} {ok:Nat→Prop} {x:S67} {cs:List Value} (h:Kd.FK k67 W ok x cs):∃A1 c1 A3 c3,cs=[.bool x.f0.f0.f0,.slice A1 x.f0.f0.f1.length c1,.bool x.f1.f0.f0,.slice A3 x.f1.f0.f1.length c3]∧x.f0.f0.f1.length≤c1∧Kd.F (Kd.int .u64) W ok A1 x.f0.f0.f1.length x.f0.f0.f1∧x.f1.f0.f1.length≤c3∧Kd.F (Kd.int .u64) W ok A3 x.f1.f0.f1.length x.f1.f0.f1:=by
 obtain⟨A1,c1,A3,c3,rfl,l1,_,l3,_⟩:=k67_open (Kd.FK_now h)
 exact⟨A1,c1,A3,c3,rfl,l1,(fun W' hW=>by obtain⟨A1_,c1_,A3_,c3_,he,l1_,g1_,l3_,g3_⟩:=k67_open (h W' hW);injection (Option.some.inj (show some (Value.slice A1 x.f0.f0.f1.length c1)=some (Value.slice A1_ x.f0.f0.f1.length c1_) from congrArg (fun l=>l[1]?) he)) with ha_ _ _;rw[ha_];exact g1_),l3,(fun W' hW=>by obtain⟨A1_,c1_,A3_,c3_,he,l1_,g1_,l3_,g3_⟩:=k67_open (h W' hW);injection (Option.some.inj (show some (Value.slice A3 x.f1.f0.f1.length c3)=some (Value.slice A3_ x.f1.f0.f1.length c3_) from congrArg (fun l=>l[3]?) he)) with ha_ _ _;rw[ha_];exact g3_)⟩
theorem k67_mkF (W:World) (ok:Nat→Prop) (x:S67) {A1:Option Addr} {c1:Nat} (l1:x.f0.f0.f1.length≤c1) (g1:Kd.F (Kd.int .u64) W ok A1 x.f0.f0.f1.length x.f0.f0.f1) {A3:Option Addr} {c3:Nat} (l3:x.f1.f0.f1.length≤c3) (g3:Kd.F (Kd.int .u64) W ok A3 x.f1.f0.f1.length x.f1.f0.f1):Kd.FK k67 W ok x [.bool x.f0.f0.f0,.slice A1 x.f0.f0.f1.length c1,.bool x.f1.f0.f0,.slice A3 x.f1.f0.f1.length c3]:=fun W2 hW=>k67_mk W2 x l1 (g1 W2 hW) l3 (g3 W2 hW)
def rd_T67 (xs:List S67) (i:Int):S67:=xs.getD i.toNat z67
theorem at_T67 {w:World} {A:Option Addr} {n:Nat} {xs:List S67} (h:Kd.C k67 w A n xs) (i:Int) (h0:0≤i) (h1:i<n):∃ad A1 c1 A3 c3,A=some ad∧w.cell? (ad.add (i.toNat*4))=some (.bool (rd_T67 xs i).f0.f0.f0)∧w.cell? ⟨(ad.add (i.toNat*4)).block,(ad.add (i.toNat*4)).off+1,none⟩=some (.slice A1 (rd_T67 xs i).f0.f0.f1.length c1)∧w.cell? ⟨(ad.add (i.toNat*4)).block,(ad.add (i.toNat*4)).off+2,none⟩=some (.bool (rd_T67 xs i).f1.f0.f0)∧w.cell? ⟨(ad.add (i.toNat*4)).block,(ad.add (i.toNat*4)).off+3,none⟩=some (.slice A3 (rd_T67 xs i).f1.f0.f1.length c3)∧(rd_T67 xs i).f0.f0.f1.length≤c1∧(Kd.int .u64).C w A1 (rd_T67 xs i).f0.f0.f1.length (rd_T67 xs i).f0.f0.f1∧(rd_T67 xs i).f1.f0.f1.length≤c3∧(Kd.int .u64).C w A3 (rd_T67 xs i).f1.f0.f1.length (rd_T67 xs i).f1.f0.f1:=by
 obtain⟨ad,c,e,_,hK,hc0⟩:=Kd.C_get h z67 i h0 h1
 have hc:∀j u,c[j]? = some u→w.cell? (ad.add (i.toNat*4+j))=some u:=hc0
 obtain⟨A1,c1,A3,c3,rfl,l1,g1,l3,g3⟩:=k67_open hK
 exact⟨ad,A1,c1,A3,c3,e,hc 0 _ rfl,F7,J8,by rw[←add_field _ _ 3 Z0];exact hc 3 _ rfl,l1,g1,l3,g3⟩
mutual
def tribunalref02_Same.j0:Nat→Bool→Bool→List Int→Bool→List Int→Option (Bool)
 | 0,_,_,_,_,_=>none
 | k+1,x19,x102000,x102001,x103000,x103001=>if x19=true then(none) else(tribunalref02_Same.l0 k 0 x102000 x102001 x103000 x103001)
def tribunalref02_Same.l0:Nat→Int→Bool→List Int→Bool→List Int→Option (Bool)
 | 0,_,_,_,_,_=>none
 | k+1,x5,x102000,x102001,x103000,x103001=>if x5<(x102001.length:Int) then(if 0≤x5 then(if x5<(x103001.length:Int) then(if(rd x102001 x5)=(rd x103001 x5) then(tribunalref02_Same.l0 k (wrap64 (x5+1)) x102000 x102001 x103000 x103001) else(none)) else(none)) else(none)) else(some true)
end
def tribunalref02_Same.f (k:Nat) (a0_0:Bool) (l0_1:List Int) (a1_0:Bool) (l1_1:List Int):Option (Bool):=if(a0_0 != a1_0)=true then(tribunalref02_Same.j0 k true a0_0 l0_1 a1_0 l1_1) else(tribunalref02_Same.j0 k ((l0_1.length:Int) != (l1_1.length:Int)) a0_0 l0_1 a1_0 l1_1)
theorem tribunalref02_Same.calls (k:Nat) (ae:Bool) (al:Option Addr) (am:Nat) (ab:List Int) (af:Bool) (an:Option Addr) (ao:Nat) (ac:List Int) (r:Bool) (w:World) (aT:Kd.C (Kd.int .u64) w al ab.length ab) (aU:ab.length≤am) (aV:Kd.C (Kd.int .u64) w an ac.length ac) (aW:ac.length≤ao) (h:tribunalref02_Same.f k ae ab af ac=some r) :
  Calls Tryz.prog 30 #[.agg #[.bool ae,.slice al ab.length am],.agg #[.bool af,.slice an ac.length ao]] w fun e w'=>e=.returned (.bool r)∧Below w.heap.size w w':=by
 have bJ:=Tryz.underlying25
 have aZ:=Aside0.mk aT
 have bu:=Aside0.mk aU
 clear aT aU
 have bb:=Aside0.mk aV
 have bv:=Aside0.mk aW
 clear aV aW
 have HB:=Aside0.mk (Below.refl w.heap.size w)
 have H:(if(ae != af)=true then(tribunalref02_Same.j0 k true ae ab af ac) else(tribunalref02_Same.j0 k ((ab.length:Int) != (ac.length:Int)) ae ab af ac))=some r:=h
 clear h
 have HC3:=Aside0.mk H
 clear H
 go_enter Tryz.func30,Tryz.ntmps30
 go_upto_region 1 with(first|(refine gd 2 rfl ?_;(try(refine gate_guard F1 ?_;dsimp only));refine kbe 2 #[.bool ae,.slice al ab.length am] 25 ?_;intro ah hg w4 hbox hb;have aa:=Aside0.mk (hbox);have aX:=kbz hg HB;have ap:=kbz hg HB;replace HB:=kbs HB hb;clear hb hbox hg)|(refine gd 3 rfl ?_;(try(refine gate_guard F1 ?_;dsimp only));refine kbe 3 #[.bool af,.slice an ac.length ao] 25 ?_;intro ak hg w5 hbox hb;have ad:=Aside0.mk (hbox);have aY:=kbz hg HB;have aq:=kbz hg HB;replace HB:=kbs HB hb;have ai:=knl hg aa;have aj:=kng hg aa;replace aa:=kbb aa hb;clear hb hbox hg))
 repeat (go_quiet (first|(refine gd 2 rfl ?_;(try(refine gate_guard F1 ?_;dsimp only));refine kbe 2 #[.bool ae,.slice al ab.length am] 25 ?_;intro ah hg w4 hbox hb;have aa:=Aside0.mk (hbox);have aX:=kbz hg HB;have ap:=kbz hg HB;replace HB:=kbs HB hb;clear hb hbox hg)|(refine gd 3 rfl ?_;(try(refine gate_guard F1 ?_;dsimp only));refine kbe 3 #[.bool af,.slice an ac.length ao] 25 ?_;intro ak hg w5 hbox hb;have ad:=Aside0.mk (hbox);have aY:=kbz hg HB;have aq:=kbz hg HB;replace HB:=kbs HB hb;have ai:=knl hg aa;have aj:=kng hg aa;replace aa:=kbb aa hb;clear hb hbox hg));go_upto_region 1 with(first|(refine gd 2 rfl ?_;(try(refine gate_guard F1 ?_;dsimp only));refine kbe 2 #[.bool ae,.slice al ab.length am] 25 ?_;intro ah hg w4 hbox hb;have aa:=Aside0.mk (hbox);have aX:=kbz hg HB;have ap:=kbz hg HB;replace HB:=kbs HB hb;clear hb hbox hg)|(refine gd 3 rfl ?_;(try(refine gate_guard F1 ?_;dsimp only));refine kbe 3 #[.bool af,.slice an ac.length ao] 25 ?_;intro ak hg w5 hbox hb;have ad:=Aside0.mk (hbox);have aY:=kbz hg HB;have aq:=kbz hg HB;replace HB:=kbs HB hb;have ai:=knl hg aa;have aj:=kng hg aa;replace aa:=kbb aa hb;clear hb hbox hg)))
 (try simp only[Act.put,kss])
 go_cut [19] (fun v19 wc=>∃(kq:Nat) (aw:Bool),v19=.bool aw∧Aside0 (tribunalref02_Same.j0 kq aw ae ab af ac=some r)∧Aside0 (kq≤k)∧Aside0 (wc.heap[ah]? = some (.cells #[.bool ae,(.slice al ab.length am)] 25 (0,0)))∧Aside0 (wc.heap[ak]? = some (.cells #[.bool af,(.slice an ac.length ao)] 25 (0,0)))∧Aside0 (Below w.heap.size w wc))
 case first=>
  have H:=HC3.out
  clear HC3
  by_cases c6:(ae != af)=true
  ·rw[if_pos c6]at H
   have ar:(ae != af)=true:=c6
   (try(have ax:decide (ae=af)=false:=by simpa using c6))
   (try(have aO:(ae==af)=false:=by simpa using c6))
   (try(have bK:¬(ae=af):=by simpa using c6))
   clear c6
   (first|rw[ar]|rw[ax]|(simp only[i64_w,i32_w];rw[ar])|skip)
   have H':=Aside0.mk H
   clear H
   have bL:=ai.out
   have bM:=aj.out
   have aG:w5.cell? ⟨ah,0,none⟩=some (.bool ae):=(blk_cell aa.out 0).trans rfl
   have aH:w5.cell? ⟨ah,1,none⟩=some (.slice al ab.length am):=(blk_cell aa.out 1).trans rfl
   have aI:=blk_frozen aa.out 0
   have aJ:=blk_frozen aa.out 1
   have aK:w5.cell? ⟨ak,0,none⟩=some (.bool af):=(blk_cell ad.out 0).trans rfl
   have aL:w5.cell? ⟨ak,1,none⟩=some (.slice an ac.length ao):=(blk_cell ad.out 1).trans rfl
   have aM:=blk_frozen ad.out 0
   have aN:=blk_frozen ad.out 1
   go_wp2
   repeat (go_quiet (fail);try go_wp2)
   go_meet
   case rel=>exact⟨_,(true),Y0,H',⟨F5⟩,⟨by(with_reducible repeat (first|refine blk_drewN ?_ _|refine blk_drew ?_|refine blk_alloc ?_ _));exact aa.out⟩,⟨by(with_reducible repeat (first|refine blk_drewN ?_ _|refine blk_drew ?_|refine blk_alloc ?_ _));exact ad.out⟩,⟨by repeat (first|(with_reducible first|exact HB.out|apply below_alloc|apply pw_below_drewN|apply below_drew1|refine below_set ?_ ap.out|refine below_set ?_ aq.out)|exact HB.out)⟩⟩
  rw[if_neg c6]at H
  have ar:(ae != af)=false:=by simpa using c6
  (try(have ax:decide (ae=af)=true:=by simpa using c6))
  (try(have aO:(ae==af)=true:=by simpa using c6))
  clear c6
  (first|rw[ar]|rw[ax]|(simp only[i64_w,i32_w];rw[ar])|skip)
  have H':=Aside0.mk H
  clear H
  have bw:=ai.out
  have bx:=aj.out
  have ay:w5.cell? ⟨ah,0,none⟩=some (.bool ae):=(blk_cell aa.out 0).trans rfl
  have az:w5.cell? ⟨ah,1,none⟩=some (.slice al ab.length am):=(blk_cell aa.out 1).trans rfl
  have aA:=blk_frozen aa.out 0
  have aB:=blk_frozen aa.out 1
  have aC:w5.cell? ⟨ak,0,none⟩=some (.bool af):=(blk_cell ad.out 0).trans rfl
  have aD:w5.cell? ⟨ak,1,none⟩=some (.slice an ac.length ao):=(blk_cell ad.out 1).trans rfl
  have aE:=blk_frozen ad.out 0
  have aF:=blk_frozen ad.out 1
  go_wp2
  repeat (go_quiet (fail);try go_wp2)
  go_meet
  case rel=>exact⟨_,(((ab.length:Int) != (ac.length:Int))),Y0,H',⟨F5⟩,⟨by(with_reducible repeat (first|refine blk_drewN ?_ _|refine blk_drew ?_|refine blk_alloc ?_ _));exact aa.out⟩,⟨by(with_reducible repeat (first|refine blk_drewN ?_ _|refine blk_drew ?_|refine blk_alloc ?_ _));exact ad.out⟩,⟨by repeat (first|(with_reducible first|exact HB.out|apply below_alloc|apply pw_below_drewN|apply below_drew1|refine below_set ?_ ap.out|refine below_set ?_ aq.out)|exact HB.out)⟩⟩
 case rest=>
  clear HC3
  try clear c1
  try clear p2
  try clear c3
  try clear c6
  try clear ar
  try clear ax
  try clear aO
  try clear c7
  try clear c10
  try clear ay
  try clear az
  try clear aC
  try clear aD
  try clear aG
  try clear aH
  try clear aK
  try clear aL
  try clear aA
  try clear aB
  try clear aE
  try clear aF
  try clear aI
  try clear aJ
  try clear aM
  try clear aN
  obtain⟨kq,aw,rfl,HA,HJ2,aa,ad,HB⟩:=hcut
  cases kq with
  | zero=>exact absurd HA.out (by simp[tribunalref02_Same.j0])
  | succ kj2=>
   have H:=HA.out
   clear HA
   simp only[tribunalref02_Same.j0]at H
   by_cases c13:aw=true
   ·subst c13
    have H1:(none)=some r:=by rw[if_pos rfl]at H;exact H
    clear H
    have H:=H1
    clear H1
    exact absurd H Z1
   replace c13:=Bool.eq_false_iff.mpr c13
   subst c13
   have H1:(tribunalref02_Same.l0 kj2 0 ae ab af ac)=some r:=by rw[if_neg (show ¬(false=true) by decide)]at H;exact H
   clear H
   have H:=H1
   clear H1
   have H':=Aside0.mk H
   clear H
   go_wp2
   repeat (go_quiet (fail);try go_wp2)
   go_loopg [5] kj2 (fun kq v5 w'=>∃(ag:Int),v5=.int .i64 ag∧Aside0 (tribunalref02_Same.l0 kq ag ae ab af ac=some r)∧Aside0 (kq≤kj2)∧Aside0 (w'.heap[ah]? = some (.cells #[.bool ae,(.slice al ab.length am)] 25 (0,0)))∧Aside0 (w'.heap[ak]? = some (.cells #[.bool af,(.slice an ac.length ao)] 25 (0,0)))∧Aside0 (Below w.heap.size w w'))
   case atStart=>exact⟨(0),Y0,H',⟨Nat.le_refl _⟩,⟨by(with_reducible repeat (first|refine blk_drewN ?_ _|refine blk_drew ?_|refine blk_alloc ?_ _));exact aa.out⟩,⟨by(with_reducible repeat (first|refine blk_drewN ?_ _|refine blk_drew ?_|refine blk_alloc ?_ _));exact ad.out⟩,⟨by repeat (first|(with_reducible first|exact HB.out|apply below_alloc|apply pw_below_drewN|apply below_drew1|refine below_set ?_ ap.out|refine below_set ?_ aq.out)|exact HB.out)⟩⟩
   case round=>
    clear H'
    try clear c1
    try clear p2
    try clear c3
    try clear c6
    try clear ar
    try clear ax
    try clear aO
    try clear c7
    try clear c10
    try clear c13
    try clear ay
    try clear az
    try clear aC
    try clear aD
    try clear aG
    try clear aH
    try clear aK
    try clear aL
    try clear aA
    try clear aB
    try clear aE
    try clear aF
    try clear aI
    try clear aJ
    try clear aM
    try clear aN
    try clear p2
    obtain⟨ag,rfl,HA,HK2,aa,ad,HB⟩:=hrel
    cases gk with
    | zero=>exact absurd HA.out (by simp[tribunalref02_Same.l0])
    | succ k2=>
     have H:=HA.out
     clear HA
     simp only[tribunalref02_Same.l0]at H
     by_cases c14:ag<(ab.length:Int)
     ·rw [if_pos c14]at H
      have bc:decide (ag<(ab.length:Int))=true:=decide_eq_true c14
      clear c14
      by_cases c15:0≤ag
      ·rw[if_pos c15]at H
       have bz:decide (0≤ag)=true:=decide_eq_true c15
       clear c15
       by_cases c16:ag<(ac.length:Int)
       ·rw[if_pos c16]at H
        have bA:decide (ag<(ac.length:Int))=true:=decide_eq_true c16
        clear c16
        by_cases c17:(rd ab ag)=(rd ac ag)
        ·rw[if_pos c17]at H
         have bB:((rd ab ag)==(rd ac ag))=true:=beq_iff_eq.mpr c17
         have bC:((rd ab ag) != (rd ac ag))=false:=bne_eq_false_iff_eq.mpr c17
         clear c17
         have H':=Aside0.mk H
         clear H
         have bD:=ai.out
         have bE:=aj.out
         have bf:wr.cell? ⟨ah,0,none⟩=some (.bool ae):=(blk_cell aa.out 0).trans rfl
         have bg:wr.cell? ⟨ah,1,none⟩=some (.slice al ab.length am):=(blk_cell aa.out 1).trans rfl
         have bh:=blk_frozen aa.out 0
         have bi:=blk_frozen aa.out 1
         have aP:0≤(ag:Int):=of_decide_eq_true ‹_›
         have aQ:ag<(ab.length:Int):=of_decide_eq_true ‹_›
         obtain⟨bF,bd,au⟩:=Kd.at_int aZ.out ag aP aQ
         cases bd
         replace au:=(HB.out.cell (World.block_lt_of_cell? w _ au)).trans au
         replace aP:=eq_true aP
         replace aQ:=eq_true aQ
         have bj:wr.cell? ⟨ak,0,none⟩=some (.bool af):=(blk_cell ad.out 0).trans rfl
         have bk:wr.cell? ⟨ak,1,none⟩=some (.slice an ac.length ao):=(blk_cell ad.out 1).trans rfl
         have bl:=blk_frozen ad.out 0
         have bn:=blk_frozen ad.out 1
         have aR:0≤(ag:Int):=of_decide_eq_true ‹_›
         have aS:ag<(ac.length:Int):=of_decide_eq_true ‹_›
         obtain⟨bG,be,av⟩:=Kd.at_int bb.out ag aR aS
         cases be
         replace av:=(HB.out.cell (World.block_lt_of_cell? w _ av)).trans av
         replace aR:=eq_true aR
         replace aS:=eq_true aS
         go_wp2
         repeat (go_quiet (fail);try go_wp2)
         go_roundg k2
         case measure=>have:=HJ2.out;have:=HK2.out;omega
         case rel=>exact⟨(wrap64 (ag+1)),Y0,H',⟨B8⟩,⟨by(with_reducible repeat (first|refine blk_drewN ?_ _|refine blk_drew ?_|refine blk_alloc ?_ _));exact aa.out⟩,⟨by(with_reducible repeat (first|refine blk_drewN ?_ _|refine blk_drew ?_|refine blk_alloc ?_ _));exact ad.out⟩,⟨by repeat (first|(with_reducible first|exact HB.out|apply below_alloc|apply pw_below_drewN|apply below_drew1|refine below_set ?_ ap.out|refine below_set ?_ aq.out)|exact HB.out)⟩⟩
        rw[if_neg c17]at H
        exact absurd H Z1
       rw[if_neg c16]at H
       exact absurd H Z1
      rw[if_neg c15]at H
      exact absurd H Z1
     rw[if_neg c14]at H
     have bc:decide (ag<(ab.length:Int))=false:=decide_eq_false c14
     clear c14
     obtain rfl:=Option.some.inj H
     have bH:=ai.out
     have bI:=aj.out
     have bo:wr.cell? ⟨ah,0,none⟩=some (.bool ae):=(blk_cell aa.out 0).trans rfl
     have bp:wr.cell? ⟨ah,1,none⟩=some (.slice al ab.length am):=(blk_cell aa.out 1).trans rfl
     have bq:=blk_frozen aa.out 0
     have br:=blk_frozen aa.out 1
     go_wp2
     repeat (go_quiet (fail);try go_wp2)
     go_ret
     exact⟨B0,by repeat (first|(with_reducible first|exact HB.out|apply below_alloc|apply pw_below_drewN|apply below_drew1|refine below_set ?_ ap.out|refine below_set ?_ aq.out)|exact HB.out)⟩
mutual
def tribunalref03_Same.j0:Nat→Bool→Bool→List Int→List Int→Bool→List Int→List Int→Option (Bool)
 | 0,_,_,_,_,_,_,_=>none
 | k+1,x20,x106000,x106001,x106002,x107000,x107001,x107002=>if x20=true then(none) else(tribunalref03_Same.l0 k 0 x106000 x106001 x106002 x107000 x107001 x107002)
def tribunalref03_Same.l0:Nat→Int→Bool→List Int→List Int→Bool→List Int→List Int→Option (Bool)
 | 0,_,_,_,_,_,_,_=>none
 | k+1,x5,x106000,x106001,x106002,x107000,x107001,x107002=>if x5<(x106002.length:Int) then(if 0≤x5 then(if x5<(x107002.length:Int) then(if(rd x106002 x5)=(rd x107002 x5) then(tribunalref03_Same.l0 k (wrap64 (x5+1)) x106000 x106001 x106002 x107000 x107001 x107002) else(none)) else(none)) else(none)) else(some true)
end
def tribunalref03_Same.f (k:Nat) (a0_0:Bool) (l0_1:List Int) (l0_2:List Int) (a1_0:Bool) (l1_1:List Int) (l1_2:List Int):Option (Bool):=if(l0_2.length:Int)=(l1_2.length:Int) then((tribunalref02_Same.f k a0_0 l0_1 a1_0 l1_1).bind fun t107=>(tribunalref03_Same.j0 k (!t107) a0_0 l0_1 l0_2 a1_0 l1_1 l1_2)) else(tribunalref03_Same.j0 k true a0_0 l0_1 l0_2 a1_0 l1_1 l1_2)
theorem tribunalref03_Same.calls (k:Nat) (ah:Bool) (an:Option Addr) (ao:Nat) (ae:List Int) (ap:Option Addr) (aq:Nat) (ac:List Int) (aj:Bool) (ar:Option Addr) (au:Nat) (af:List Int) (av:Option Addr) (aw:Nat) (ad:List Int) (r:Bool) (w:World) (bo:Kd.C (Kd.int .u64) w an ae.length ae) (bp:ae.length≤ao) (bq:Kd.C (Kd.int .u64) w ap ac.length ac) (br:ac.length≤aq) (bu:Kd.C (Kd.int .u64) w ar af.length af) (bv:af.length≤au) (bw:Kd.C (Kd.int .u64) w av ad.length ad) (bx:ad.length≤aw) (h:tribunalref03_Same.f k ah ae ac aj af ad=some r) :
  Calls Tryz.prog 21 #[.agg #[.bool ah,.slice an ae.length ao,.slice ap ac.length aq],.agg #[.bool aj,.slice ar af.length au,.slice av ad.length aw]] w fun e w'=>e=.returned (.bool r)∧Below w.heap.size w w':=by
 have cm:=Tryz.underlying27
 have cn:=Tryz.underlying25
 have aX:=Aside0.mk bo
 have aY:=Aside0.mk bp
 clear bo bp
 have bB:=Aside0.mk bq
 have bY:=Aside0.mk br
 clear bq br
 have aZ:=Aside0.mk bu
 have bb:=Aside0.mk bv
 clear bu bv
 have bC:=Aside0.mk bw
 have bZ:=Aside0.mk bx
 clear bw bx
 have HB:=Aside0.mk (Below.refl w.heap.size w)
 have H:(if(ac.length:Int)=(ad.length:Int) then((tribunalref02_Same.f k ah ae aj af).bind fun az=>(tribunalref03_Same.j0 k (!az) ah ae ac aj af ad)) else(tribunalref03_Same.j0 k true ah ae ac aj af ad))=some r:=h
 clear h
 have HC3:=Aside0.mk H
 clear H
 go_enter Tryz.func21,Tryz.ntmps21
 go_upto_region 1 with(first|(refine gd 2 rfl ?_;refine kbe 2 #[.bool ah,.slice an ae.length ao,.slice ap ac.length aq] 27 ?_;intro ai hg w4 hbox hb;have aa:=Aside0.mk (hbox);have bz:=kbz hg HB;have ax:=kbz hg HB;replace HB:=kbs HB hb;clear hb hbox hg)|(refine gd 3 rfl ?_;refine kbe 3 #[.bool aj,.slice ar af.length au,.slice av ad.length aw] 27 ?_;intro ak hg w5 hbox hb;have ab:=Aside0.mk (hbox);have bA:=kbz hg HB;have ay:=kbz hg HB;replace HB:=kbs HB hb;have al:=knl hg aa;have am:=kng hg aa;replace aa:=kbb aa hb;clear hb hbox hg))
 repeat (go_quiet (first|(refine gd 2 rfl ?_;refine kbe 2 #[.bool ah,.slice an ae.length ao,.slice ap ac.length aq] 27 ?_;intro ai hg w4 hbox hb;have aa:=Aside0.mk (hbox);have bz:=kbz hg HB;have ax:=kbz hg HB;replace HB:=kbs HB hb;clear hb hbox hg)|(refine gd 3 rfl ?_;refine kbe 3 #[.bool aj,.slice ar af.length au,.slice av ad.length aw] 27 ?_;intro ak hg w5 hbox hb;have ab:=Aside0.mk (hbox);have bA:=kbz hg HB;have ay:=kbz hg HB;replace HB:=kbs HB hb;have al:=knl hg aa;have am:=kng hg aa;replace aa:=kbb aa hb;clear hb hbox hg));go_upto_region 1 with(first|(refine gd 2 rfl ?_;refine kbe 2 #[.bool ah,.slice an ae.length ao,.slice ap ac.length aq] 27 ?_;intro ai hg w4 hbox hb;have aa:=Aside0.mk (hbox);have bz:=kbz hg HB;have ax:=kbz hg HB;replace HB:=kbs HB hb;clear hb hbox hg)|(refine gd 3 rfl ?_;refine kbe 3 #[.bool aj,.slice ar af.length au,.slice av ad.length aw] 27 ?_;intro ak hg w5 hbox hb;have ab:=Aside0.mk (hbox);have bA:=kbz hg HB;have ay:=kbz hg HB;replace HB:=kbs HB hb;have al:=knl hg aa;have am:=kng hg aa;replace aa:=kbb aa hb;clear hb hbox hg)))
 (try simp only[Act.put,kss])
 go_cut [20] (fun v20 wc=>∃(kq:Nat) (aD:Bool),v20=.bool aD∧Aside0 (tribunalref03_Same.j0 kq aD ah ae ac aj af ad=some r)∧Aside0 (kq≤k)∧Aside0 (wc.heap[ai]? = some (.cells #[.bool ah,(.slice an ae.length ao),(.slice ap ac.length aq)] 27 (0,0)))∧Aside0 (wc.heap[ak]? = some (.cells #[.bool aj,(.slice ar af.length au),(.slice av ad.length aw)] 27 (0,0)))∧Aside0 (Below w.heap.size w wc))
 case first=>
  have H:=HC3.out
  clear HC3
  by_cases c6:(ac.length:Int)=(ad.length:Int)
  ·rw[if_pos c6]at H
   have aA:((ac.length:Int)==(ad.length:Int))=true:=beq_iff_eq.mpr c6
   have aE:((ac.length:Int) != (ad.length:Int))=false:=bne_eq_false_iff_eq.mpr c6
   have bi:(ac.length==ad.length)=true:=by first|simpa using c6|(simp at c6 ⊢;omega)
   clear c6
   (first|rw[aA]|rw[aE]|(simp only[i64_w,i32_w];rw[aA])|skip)
   replace H:=Option.bind_eq_some_iff.mp H
   obtain⟨az,A70,H⟩:=H
   replace H:(tribunalref03_Same.j0 k (!az) ah ae ac aj af ad)=some r:=H
   have A7:=Aside0.mk A70
   clear A70
   have H':=Aside0.mk H
   clear H
   have co:=al.out
   have cp:=am.out
   have bc:w5.cell? ⟨ai,0,none⟩=some (.bool ah):=(blk_cell aa.out 0).trans rfl
   have bd:w5.cell? ⟨ai,1,none⟩=some (.slice an ae.length ao):=(blk_cell aa.out 1).trans rfl
   have be:w5.cell? ⟨ai,2,none⟩=some (.slice ap ac.length aq):=(blk_cell aa.out 2).trans rfl
   have bf:=blk_frozen aa.out 0
   have bg:=blk_frozen aa.out 1
   have bh:=blk_frozen aa.out 2
   have aF:w5.cell? ⟨ak,0,none⟩=some (.bool aj):=(blk_cell ab.out 0).trans rfl
   have aG:w5.cell? ⟨ak,1,none⟩=some (.slice ar af.length au):=(blk_cell ab.out 1).trans rfl
   have aH:w5.cell? ⟨ak,2,none⟩=some (.slice av ad.length aw):=(blk_cell ab.out 2).trans rfl
   have aI:=blk_frozen ab.out 0
   have aJ:=blk_frozen ab.out 1
   have aK:=blk_frozen ab.out 2
   go_wp2_with (first|(go_at_call 30;(with_reducible refine(tribunalref02_Same.calls k ah _ _ ae aj _ _ af az _ ?side1 ?side2 ?side3 ?side4 A7.out).mono ?_);(case side1=>repeat (first|exact(Kd.C_below aX.out HB.out)|(with_reducible refine Kd.C_alloc ?_ _)|(with_reducible refine Kd.C_drewN ?_ _)|(with_reducible refine Kd.C_drew ?_)));(case side2=>exact aY.out);(case side3=>repeat (first|exact(Kd.C_below aZ.out HB.out)|(with_reducible refine Kd.C_alloc ?_ _)|(with_reducible refine Kd.C_drewN ?_ _)|(with_reducible refine Kd.C_drew ?_)));(case side4=>exact bb.out);rintro e w11 ⟨rfl,hb⟩;replace aa:=kbb aa hb;replace ab:=kbb ab hb;replace HB:=kbs HB hb;(try clear hb);(try clear hb2);(try clear hk);(try clear hi)))
   repeat (go_quiet (first|(go_at_call 30;(with_reducible refine(tribunalref02_Same.calls k ah _ _ ae aj _ _ af az _ ?side1 ?side2 ?side3 ?side4 A7.out).mono ?_);(case side1=>repeat (first|exact(Kd.C_below aX.out HB.out)|(with_reducible refine Kd.C_alloc ?_ _)|(with_reducible refine Kd.C_drewN ?_ _)|(with_reducible refine Kd.C_drew ?_)));(case side2=>exact aY.out);(case side3=>repeat (first|exact(Kd.C_below aZ.out HB.out)|(with_reducible refine Kd.C_alloc ?_ _)|(with_reducible refine Kd.C_drewN ?_ _)|(with_reducible refine Kd.C_drew ?_)));(case side4=>exact bb.out);rintro e w11 ⟨rfl,hb⟩;replace aa:=kbb aa hb;replace ab:=kbb ab hb;replace HB:=kbs HB hb;(try clear hb);(try clear hb2);(try clear hk);(try clear hi)));try go_wp2_with (first|(go_at_call 30;(with_reducible refine(tribunalref02_Same.calls k ah _ _ ae aj _ _ af az _ ?side1 ?side2 ?side3 ?side4 A7.out).mono ?_);(case side1=>repeat (first|exact(Kd.C_below aX.out HB.out)|(with_reducible refine Kd.C_alloc ?_ _)|(with_reducible refine Kd.C_drewN ?_ _)|(with_reducible refine Kd.C_drew ?_)));(case side2=>exact aY.out);(case side3=>repeat (first|exact(Kd.C_below aZ.out HB.out)|(with_reducible refine Kd.C_alloc ?_ _)|(with_reducible refine Kd.C_drewN ?_ _)|(with_reducible refine Kd.C_drew ?_)));(case side4=>exact bb.out);rintro e w11 ⟨rfl,hb⟩;replace aa:=kbb aa hb;replace ab:=kbb ab hb;replace HB:=kbs HB hb;(try clear hb);(try clear hb2);(try clear hk);(try clear hi))))
   go_meet
   case rel=>exact⟨_,(!az),Y0,H',⟨F5⟩,⟨by(with_reducible repeat (first|refine blk_drewN ?_ _|refine blk_drew ?_|refine blk_alloc ?_ _));exact aa.out⟩,⟨by(with_reducible repeat (first|refine blk_drewN ?_ _|refine blk_drew ?_|refine blk_alloc ?_ _));exact ab.out⟩,⟨by repeat (first|(with_reducible first|exact HB.out|apply below_alloc|apply pw_below_drewN|apply below_drew1|refine below_set ?_ ax.out|refine below_set ?_ ay.out)|exact HB.out)⟩⟩
  rw[if_neg c6]at H
  have aA:((ac.length:Int)==(ad.length:Int))=false:=beq_eq_false_iff_ne.mpr c6
  have aE:((ac.length:Int) != (ad.length:Int))=true:=bne_iff_ne.mpr c6
  have bi:(ac.length==ad.length)=false:=by first|simpa using c6|(simp at c6 ⊢;omega)
  (first|rw[aA]|rw[aE]|(simp only[i64_w,i32_w];rw[aA])|skip)
  have H':=Aside0.mk H
  clear H
  have ca:=al.out
  have cb:=am.out
  have aL:w5.cell? ⟨ai,0,none⟩=some (.bool ah):=(blk_cell aa.out 0).trans rfl
  have aM:w5.cell? ⟨ai,1,none⟩=some (.slice an ae.length ao):=(blk_cell aa.out 1).trans rfl
  have aN:w5.cell? ⟨ai,2,none⟩=some (.slice ap ac.length aq):=(blk_cell aa.out 2).trans rfl
  have aO:=blk_frozen aa.out 0
  have aP:=blk_frozen aa.out 1
  have aQ:=blk_frozen aa.out 2
  have aR:w5.cell? ⟨ak,0,none⟩=some (.bool aj):=(blk_cell ab.out 0).trans rfl
  have aS:w5.cell? ⟨ak,1,none⟩=some (.slice ar af.length au):=(blk_cell ab.out 1).trans rfl
  have aT:w5.cell? ⟨ak,2,none⟩=some (.slice av ad.length aw):=(blk_cell ab.out 2).trans rfl
  have aU:=blk_frozen ab.out 0
  have aV:=blk_frozen ab.out 1
  have aW:=blk_frozen ab.out 2
  go_wp2
  repeat (go_quiet (fail);try go_wp2)
  go_meet
  case rel=>exact⟨_,(true),Y0,H',⟨F5⟩,⟨by(with_reducible repeat (first|refine blk_drewN ?_ _|refine blk_drew ?_|refine blk_alloc ?_ _));exact aa.out⟩,⟨by(with_reducible repeat (first|refine blk_drewN ?_ _|refine blk_drew ?_|refine blk_alloc ?_ _));exact ab.out⟩,⟨by repeat (first|(with_reducible first|exact HB.out|apply below_alloc|apply pw_below_drewN|apply below_drew1|refine below_set ?_ ax.out|refine below_set ?_ ay.out)|exact HB.out)⟩⟩
 case rest=>
  clear HC3
  try clear c1
  try clear c2
  try clear p2
  try clear c6
  try clear aA
  try clear aE
  try clear bi
  try clear c8
  try clear c12
  try clear aF
  try clear aG
  try clear aH
  try clear aL
  try clear aM
  try clear aN
  try clear aR
  try clear aS
  try clear aT
  try clear bc
  try clear bd
  try clear be
  try clear aI
  try clear aJ
  try clear aK
  try clear aO
  try clear aP
  try clear aQ
  try clear aU
  try clear aV
  try clear aW
  try clear bf
  try clear bg
  try clear bh
  obtain⟨kq,aD,rfl,HA,HJ2,aa,ab,HB⟩:=hcut
  cases kq with
  | zero=>exact absurd HA.out (by simp[tribunalref03_Same.j0])
  | succ kj2=>
   have H:=HA.out
   clear HA
   simp only[tribunalref03_Same.j0]at H
   by_cases c15:aD=true
   ·subst c15
    have H1:(none)=some r:=by rw[if_pos rfl]at H;exact H
    clear H
    have H:=H1
    clear H1
    exact absurd H Z1
   replace c15:=Bool.eq_false_iff.mpr c15
   subst c15
   have H1:(tribunalref03_Same.l0 kj2 0 ah ae ac aj af ad)=some r:=by rw[if_neg (show ¬(false=true) by decide)]at H;exact H
   clear H
   have H:=H1
   clear H1
   have H':=Aside0.mk H
   clear H
   go_wp2
   repeat (go_quiet (fail);try go_wp2)
   go_loopg [5] kj2 (fun kq v5 w'=>∃(ag:Int),v5=.int .i64 ag∧Aside0 (tribunalref03_Same.l0 kq ag ah ae ac aj af ad=some r)∧Aside0 (kq≤kj2)∧Aside0 (w'.heap[ai]? = some (.cells #[.bool ah,(.slice an ae.length ao),(.slice ap ac.length aq)] 27 (0,0)))∧Aside0 (w'.heap[ak]? = some (.cells #[.bool aj,(.slice ar af.length au),(.slice av ad.length aw)] 27 (0,0)))∧Aside0 (Below w.heap.size w w'))
   case atStart=>exact⟨(0),Y0,H',⟨Nat.le_refl _⟩,⟨by(with_reducible repeat (first|refine blk_drewN ?_ _|refine blk_drew ?_|refine blk_alloc ?_ _));exact aa.out⟩,⟨by(with_reducible repeat (first|refine blk_drewN ?_ _|refine blk_drew ?_|refine blk_alloc ?_ _));exact ab.out⟩,⟨by repeat (first|(with_reducible first|exact HB.out|apply below_alloc|apply pw_below_drewN|apply below_drew1|refine below_set ?_ ax.out|refine below_set ?_ ay.out)|exact HB.out)⟩⟩
   case round=>
    clear H'
    try clear c1
    try clear c2
    try clear p2
    try clear c6
    try clear aA
    try clear aE
    try clear bi
    try clear c8
    try clear c12
    try clear c15
    try clear aF
    try clear aG
    try clear aH
    try clear aL
    try clear aM
    try clear aN
    try clear aR
    try clear aS
    try clear aT
    try clear bc
    try clear bd
    try clear be
    try clear aI
    try clear aJ
    try clear aK
    try clear aO
    try clear aP
    try clear aQ
    try clear aU
    try clear aV
    try clear aW
    try clear bf
    try clear bg
    try clear bh
    try clear p2
    obtain⟨ag,rfl,HA,HK2,aa,ab,HB⟩:=hrel
    cases gk with
    | zero=>exact absurd HA.out (by simp[tribunalref03_Same.l0])
    | succ k2=>
     have H:=HA.out
     clear HA
     simp only[tribunalref03_Same.l0]at H
     by_cases c16:ag<(ac.length:Int)
     ·rw [if_pos c16]at H
      have bD:decide (ag<(ac.length:Int))=true:=decide_eq_true c16
      clear c16
      by_cases c17:0≤ag
      ·rw[if_pos c17]at H
       have cc:decide (0≤ag)=true:=decide_eq_true c17
       clear c17
       by_cases c18:ag<(ad.length:Int)
       ·rw[if_pos c18]at H
        have cd:decide (ag<(ad.length:Int))=true:=decide_eq_true c18
        clear c18
        by_cases c19:(rd ac ag)=(rd ad ag)
        ·rw[if_pos c19]at H
         have ce:((rd ac ag)==(rd ad ag))=true:=beq_iff_eq.mpr c19
         have cf:((rd ac ag) != (rd ad ag))=false:=bne_eq_false_iff_eq.mpr c19
         clear c19
         have H':=Aside0.mk H
         clear H
         have cg:=al.out
         have ch:=am.out
         have bG:wr.cell? ⟨ai,0,none⟩=some (.bool ah):=(blk_cell aa.out 0).trans rfl
         have bH:wr.cell? ⟨ai,1,none⟩=some (.slice an ae.length ao):=(blk_cell aa.out 1).trans rfl
         have bI:wr.cell? ⟨ai,2,none⟩=some (.slice ap ac.length aq):=(blk_cell aa.out 2).trans rfl
         have bJ:=blk_frozen aa.out 0
         have bK:=blk_frozen aa.out 1
         have bL:=blk_frozen aa.out 2
         have bj:0≤(ag:Int):=of_decide_eq_true ‹_›
         have bk:ag<(ac.length:Int):=of_decide_eq_true ‹_›
         obtain⟨ci,bE,aB⟩:=Kd.at_int bB.out ag bj bk
         cases bE
         replace aB:=(HB.out.cell (World.block_lt_of_cell? w _ aB)).trans aB
         replace bj:=eq_true bj
         replace bk:=eq_true bk
         have bM:wr.cell? ⟨ak,0,none⟩=some (.bool aj):=(blk_cell ab.out 0).trans rfl
         have bN:wr.cell? ⟨ak,1,none⟩=some (.slice ar af.length au):=(blk_cell ab.out 1).trans rfl
         have bO:wr.cell? ⟨ak,2,none⟩=some (.slice av ad.length aw):=(blk_cell ab.out 2).trans rfl
         have bP:=blk_frozen ab.out 0
         have bQ:=blk_frozen ab.out 1
         have bR:=blk_frozen ab.out 2
         have bl:0≤(ag:Int):=of_decide_eq_true ‹_›
         have bn:ag<(ad.length:Int):=of_decide_eq_true ‹_›
         obtain⟨cj,bF,aC⟩:=Kd.at_int bC.out ag bl bn
         cases bF
         replace aC:=(HB.out.cell (World.block_lt_of_cell? w _ aC)).trans aC
         replace bl:=eq_true bl
         replace bn:=eq_true bn
         go_wp2
         repeat (go_quiet (fail);try go_wp2)
         go_roundg k2
         case measure=>have:=HJ2.out;have:=HK2.out;omega
         case rel=>exact⟨(wrap64 (ag+1)),Y0,H',⟨B8⟩,⟨by(with_reducible repeat (first|refine blk_drewN ?_ _|refine blk_drew ?_|refine blk_alloc ?_ _));exact aa.out⟩,⟨by(with_reducible repeat (first|refine blk_drewN ?_ _|refine blk_drew ?_|refine blk_alloc ?_ _));exact ab.out⟩,⟨by repeat (first|(with_reducible first|exact HB.out|apply below_alloc|apply pw_below_drewN|apply below_drew1|refine below_set ?_ ax.out|refine below_set ?_ ay.out)|exact HB.out)⟩⟩
        rw[if_neg c19]at H
        exact absurd H Z1
       rw[if_neg c18]at H
       exact absurd H Z1
      rw[if_neg c17]at H
      exact absurd H Z1
     rw[if_neg c16]at H
     have bD:decide (ag<(ac.length:Int))=false:=decide_eq_false c16
     clear c16
     obtain rfl:=Option.some.inj H
     have ck:=al.out
     have cl:=am.out
     have bS:wr.cell? ⟨ai,0,none⟩=some (.bool ah):=(blk_cell aa.out 0).trans rfl
     have bT:wr.cell? ⟨ai,1,none⟩=some (.slice an ae.length ao):=(blk_cell aa.out 1).trans rfl
     have bU:wr.cell? ⟨ai,2,none⟩=some (.slice ap ac.length aq):=(blk_cell aa.out 2).trans rfl
     have bV:=blk_frozen aa.out 0
     have bW:=blk_frozen aa.out 1
     have bX:=blk_frozen aa.out 2
     go_wp2
     repeat (go_quiet (fail);try go_wp2)
     go_ret
     exact⟨B0,by repeat (first|(with_reducible first|exact HB.out|apply below_alloc|apply pw_below_drewN|apply below_drew1|refine below_set ?_ ax.out|refine below_set ?_ ay.out)|exact HB.out)⟩
def whole_trimmed.l0:Nat→List Int→Int→Option (List Int)
 | 0,_,_=>none
 | k+1,x0,x3=>if x3>0 then(if 0≤(wrap64 (x3-1)) then(if(wrap64 (x3-1))<(x0.length:Int) then(if(rd x0 (wrap64 (x3-1)))=0 then(whole_trimmed.l0 k x0 (wrap64 (x3-1))) else(if 0≤x3 then(if x3≤(x0.length:Int) then(some (x0.take (x3:Int).toNat)) else(none)) else(none))) else(none)) else(none)) else(if 0≤x3 then(if x3≤(x0.length:Int) then(some (x0.take (x3:Int).toNat)) else(none)) else(none))
def whole_trimmed.f (k:Nat) (l0:List Int):Option (List Int):=whole_trimmed.l0 k l0 (l0.length:Int)
theorem whole_trimmed.mono_l:∀k,(∀y0 y1,LeO (whole_trimmed.l0 k y0 y1) (whole_trimmed.l0 (k+1) y0 y1))
 | 0=>fun _ _ r h=>by simp[whole_trimmed.l0]at h
 | k+1=>by
  have ih0:=whole_trimmed.mono_l k
  intro y0 y1
  unfold whole_trimmed.l0
  repeat' first
  | (with_reducible exact ih0 _ _)
  | (with_reducible exact LeO.refl _)
  | (with_reducible exact LeO.none _)
  | (with_reducible refine LeO.ite ?_ ?_)
  | (with_reducible refine LeO.bind ?_ (fun _=>?_))
  | exact ih0 _ _
  | exact LeO.none _
  | refine LeO.ite ?_ ?_
  | refine LeO.bind ?_ (fun _=>?_)
theorem whole_trimmed.mono:∀a0 k,LeO (whole_trimmed.f k a0) (whole_trimmed.f (k+1) a0):=by
 intro a0 k
 have ih0:=whole_trimmed.mono_l k
 unfold whole_trimmed.f
 repeat' first
   | (with_reducible exact ih0 _ _)
   | (with_reducible exact LeO.refl _)
   | (with_reducible exact LeO.none _)
   | (with_reducible refine LeO.ite ?_ ?_)
   | (with_reducible refine LeO.bind ?_ (fun _=>?_))
   | exact ih0 _ _
   | exact LeO.none _
   | refine LeO.ite ?_ ?_
   | refine LeO.bind ?_ (fun _=>?_)
theorem whole_trimmed.calls (k:Nat) (P0_:Nat→Prop) (A0:Option Addr) (c0:Nat) (l0:List Int) (r:List Int) (w:World) (hs0:Kd.V (Kd.int .u64) 91 w w.heap.size (fun k_=>P0_ k_) (.slice A0 l0.length c0) l0) (h:whole_trimmed.f k l0=some r) :
  Calls Tryz.prog 79 #[.slice A0 l0.length c0] w fun e w'=>∃v0_:Value,e=.returned (v0_)∧Kd.V (Kd.int .u64) 91 w' w.heap.size (fun k_=>(P0_ k_∨w.heap.size≤k_)) v0_ r∧Below w.heap.size w w':=by
 have HO0:=Aside0.mk (show Kd.V (Kd.int .u64) 91 w w.heap.size (fun k_=>(P0_ k_∨w.heap.size≤k_)) (.slice A0 l0.length c0) l0 from Kd.V_mono hs0 (fun k_ hk=>.inl hk))
 have HB:=Aside0.mk (Below.refl w.heap.size w)
 have H:(whole_trimmed.l0 k l0 (l0.length:Int))=some r:=h
 clear h
 have H':=Aside0.mk H
 clear H
 go_enter Tryz.func79,Tryz.ntmps79
 go_wp2
 go_loopg [3] k (fun kq v3 w'=>∃(aa:Int),v3=.int .i64 aa∧Aside0 (whole_trimmed.l0 kq l0 aa=some r)∧Aside0 (kq≤k)∧Aside0 (Kd.V (Kd.int .u64) 91 w' w.heap.size (fun k_=>(P0_ k_∨w.heap.size≤k_)) (.slice A0 l0.length c0) l0)∧Aside0 (Below w.heap.size w w'))
 case atStart=>exact⟨((l0.length:Int)),Y0,H',⟨Nat.le_refl _⟩,⟨kvu HO0.out⟩,⟨khu HB.out⟩⟩
 case round=>
  clear H'
  obtain⟨aa,rfl,HA,HK1,ab,HB⟩:=hrel
  cases gk with
  | zero=>exact absurd HA.out (by simp[whole_trimmed.l0])
  | succ k1=>
   have H:=HA.out
   clear HA
   simp only[whole_trimmed.l0]at H
   by_cases c2:aa>0
   ·rw [if_pos c2]at H
    have aB:decide (0<aa)=true:=decide_eq_true c2
    clear c2
    obtain⟨ji3,hji3⟩:∃j_:Int,(wrap64 (aa-1))=j_:=⟨_,rfl⟩
    replace H:(if 0≤(ji3) then(if(ji3)<(l0.length:Int) then(if(rd l0 (ji3))=0 then(whole_trimmed.l0 k1 l0 ji3) else(if 0≤aa then(if aa≤(l0.length:Int) then(some (l0.take (aa:Int).toNat)) else(none)) else(none))) else(none)) else(none))=some r:=by first|(rw[hji3]at H;exact H)|(simp only[hji3]at H ⊢;exact H)
    have aF:(IntKind.i64.wrap (aa-1))=ji3:=(i64_w _).trans hji3
    by_cases c4:0≤(ji3)
    ·rw [if_pos c4]at H
     have aM:decide (0≤(ji3))=true:=decide_eq_true c4
     clear c4
     by_cases c5:(ji3)<(l0.length:Int)
     ·rw[if_pos c5]at H
      have aN:decide ((ji3)<(l0.length:Int))=true:=decide_eq_true c5
      clear c5
      by_cases c6:(rd l0 (ji3))=0
      ·rw[if_pos c6]at H
       have aC:((rd l0 (ji3))==0)=true:=beq_iff_eq.mpr c6
       have aD:((rd l0 (ji3)) != 0)=false:=bne_eq_false_iff_eq.mpr c6
       clear c6
       have H':=Aside0.mk H
       clear H
       have ac:0≤((ji3):Int):=of_decide_eq_true ‹_›
       have ad:(ji3)<(l0.length:Int):=of_decide_eq_true ‹_›
       obtain⟨ag,al,ar⟩:=Kd.at_int (Kd.V_reads' ab.out).2.2 (ji3) ac ad
       cases al
       replace ac:=eq_true ac
       replace ad:=eq_true ad
       go_wp2
       go_roundg k1
       case measure=>have:=HK1.out;omega
       case rel=>exact⟨(ji3),Z7,H',⟨Y3⟩,⟨kvu ab.out⟩,⟨khu HB.out⟩⟩
      rw[if_neg c6]at H
      have aC:((rd l0 (ji3))==0)=false:=beq_eq_false_iff_ne.mpr c6
      have aD:((rd l0 (ji3)) != 0)=true:=bne_iff_ne.mpr c6
      by_cases c7:0≤aa
      ·rw[if_pos c7]at H
       have aO:=eq_true c7
       have aP:decide (0≤aa)=true:=decide_eq_true c7
       clear c7
       by_cases c8:aa≤(l0.length:Int)
       ·rw[if_pos c8]at H
        have aQ:=eq_true c8
        have aR:decide (aa≤(l0.length:Int))=true:=decide_eq_true c8
        clear c8
        obtain⟨ah,ae⟩:∃y_:List Int,y_=(l0.take (aa:Int).toNat):=⟨_,rfl⟩
        replace H:(some ah)=some r:=by first|(rw[ae];with_reducible exact H)|(have H2_:=(Option.bind_some _ _).symm.trans H;rw[ae];with_reducible exact H2_)|(have H2_:=(Option.bind_some _ _).symm.trans H;with_reducible exact H2_)|with_reducible exact H|(rw[ae];exact H)|exact H
        have ao:=Aside0.mk ae
        clear ae
        obtain rfl:=Option.some.inj H
        have ac:0≤((ji3):Int):=of_decide_eq_true ‹_›
        have ad:(ji3)<(l0.length:Int):=of_decide_eq_true ‹_›
        obtain⟨ag,al,ar⟩:=Kd.at_int (Kd.V_reads' ab.out).2.2 (ji3) ac ad
        cases al
        replace ac:=eq_true ac
        replace ad:=eq_true ad
        have q9:(aa:Int)≤((l0.length:Int):Int):=of_decide_eq_true ‹_›
        obtain⟨i09,au,_,aE,_⟩:=info_parts info91
        have ak:l0.length≤c0:=(Kd.V_reads' ab.out).2.1
        have hC9:Kd.F (Kd.int .u64) _ _ (some ag) l0.length l0:=(Kd.V_at (base:=w.heap.size) ab.out).2.2
        have ax:=cut_to (P:=Tryz.prog) 22 91 .i64 Tryz.underlying22 au (some ag) l0.length c0 aa (of_decide_eq_true ‹_›) q9 ak
        have hr9:=Kd.F_take (m:=(aa:Int).toNat) hC9 Z0
        have hy9:ah.length=(aa:Int).toNat:=(by rw[ao.out,List.length_take];omega)
        rw[←ao.out]at hr9
        rw[←hy9]at ax
        have ay:=Aside0.mk (show Kd.V (Kd.int .u64) 91 _ w.heap.size _ (.slice (some ag) ah.length c0) ah from Kd.V_mk Z0 hr9)
        have aG:=Aside0.mk (show ah.length≤c0 from by omega)
        clear hr9 hC9 ak au aE
        have KY9:=Aside0.mk hy9
        clear hy9
        replace q9:=eq_true q9
        go_wp2
        go_ret
        exact⟨_,F3,kvu ay.out,khu HB.out⟩
       rw[if_neg c8]at H
       exact absurd H Z1
      rw[if_neg c7]at H
      exact absurd H Z1
     rw[if_neg c5]at H
     exact absurd H Z1
    rw[if_neg c4]at H
    exact absurd H Z1
   rw[if_neg c2]at H
   have aB:decide (0<aa)=false:=decide_eq_false c2
   clear c2
   by_cases c10:0≤aa
   ·rw[if_pos c10]at H
    have aH:=eq_true c10
    have aI:decide (0≤aa)=true:=decide_eq_true c10
    clear c10
    by_cases c11:aa≤(l0.length:Int)
    ·rw[if_pos c11]at H
     have aJ:=eq_true c11
     have aK:decide (aa≤(l0.length:Int))=true:=decide_eq_true c11
     clear c11
     obtain⟨ai,af⟩:∃y_:List Int,y_=(l0.take (aa:Int).toNat):=⟨_,rfl⟩
     replace H:(some ai)=some r:=by first|(rw[af];with_reducible exact H)|(have H2_:=(Option.bind_some _ _).symm.trans H;rw[af];with_reducible exact H2_)|(have H2_:=(Option.bind_some _ _).symm.trans H;with_reducible exact H2_)|with_reducible exact H|(rw[af];exact H)|exact H
     have ap:=Aside0.mk af
     clear af
     obtain rfl:=Option.some.inj H
     have q12:(aa:Int)≤((l0.length:Int):Int):=of_decide_eq_true ‹_›
     obtain⟨i012,aq,_,az,_⟩:=info_parts info91
     have aj:l0.length≤c0:=(Kd.V_reads' ab.out).2.1
     have av:Kd.F (Kd.int .u64) _ _ A0 l0.length l0:=(Kd.V_at (base:=w.heap.size) ab.out).2.2
     have aw:=cut_to (P:=Tryz.prog) 22 91 .i64 Tryz.underlying22 aq A0 l0.length c0 aa (of_decide_eq_true ‹_›) q12 aj
     have am:=Kd.F_take (m:=(aa:Int).toNat) av Z0
     have an:ai.length=(aa:Int).toNat:=(by rw[ap.out,List.length_take];omega)
     rw[←ap.out]at am
     rw[←an]at aw
     have aA:=Aside0.mk (show Kd.V (Kd.int .u64) 91 _ w.heap.size _ (.slice A0 ai.length c0) ai from Kd.V_mk Z0 am)
     have aL:=Aside0.mk (show ai.length≤c0 from by omega)
     clear am av aj aq az
     have aS:=Aside0.mk an
     clear an
     replace q12:=eq_true q12
     go_wp2
     go_ret
     exact⟨_,B0,kvu aA.out,khu HB.out⟩
    rw[if_neg c11]at H
    exact absurd H Z1
   rw[if_neg c10]at H
   exact absurd H Z1
def whole_amount_null.f (l0:List Int):Option (Bool):=some ((l0.length:Int)==0)
theorem whole_amount_null.calls (A0:Option Addr) (c0:Nat) (l0:List Int) (r:Bool) (w:World) (hr0:Kd.C (Kd.int .u64) w A0 l0.length l0) (hc0:l0.length≤c0) (h:whole_amount_null.f l0=some r) :
  Calls Tryz.prog 86 #[.slice A0 l0.length c0] w fun e w'=>e=.returned (.bool r)∧Drawn0 w w':=by
 have HR0:=Aside0.mk hr0
 have HC0:=Aside0.mk hc0
 clear hr0 hc0
 have H:(some ((l0.length:Int)==0))=some r:=h
 clear h
 obtain rfl:=Option.some.inj H
 go_enter Tryz.func86,Tryz.ntmps86
 go_wp2
 go_ret
 exact⟨Y0,Y1⟩
end Go.Proofs.YtncomlmhagaajaaGreatDoor.PRp
namespace Go.Proofs.YtncomlmhagaajaaGreatDoor.Mine
open Go Go.RowKit Go.Proofs.YtncomlmhagaajaaGreatDoorW.PrintWords Go.Proofs.YtncomlmhagaajaaGreatDoorW.PrintLast Go.Proofs.YtncomlmhagaajaaGreatDoorW.PrintMore
abbrev Bx:=Nat×Array Value×TypeId
structure Keep (w:World) (bs:List Bx) (vs:List (Value×List Int)) (W:World):Prop where
 below:Below w.heap.size w W
 blk:∀b∈bs,w.heap.size≤b.1∧W.heap[b.1]? = some (.cells b.2.1 b.2.2 (0,0))
 nod:(bs.map (·.1)).Nodup
 val:∀v∈vs,Kd.V (Kd.int .u64) 91 W 0 (fun k=>∀b∈bs,k≠b.1) v.1 v.2
namespace Keep
variable {w W W':World} {bs bs':List Bx} {vs vs':List (Value×List Int)} {g:Nat} {cs:Array Value} {t:TypeId} {v:Value} {xs:List Int}
theorem refl (w:World):Keep w [] [] w:=⟨Below.refl _ _,fun _ h=>absurd h Z1,List.nodup_nil,fun _ h=>absurd h Z1⟩
theorem up (K:Keep w bs vs W) (hb:Below W.heap.size W W'):Keep w bs vs W':=
 ⟨K.below.trans (hb.mono K.below.size),fun b h=>⟨(K.blk b h).1,blk_below (K.blk b h).2 hb⟩,K.nod,fun v h=>Kd.V_below (K.val v h) hb⟩
theorem u [u:UpO W W'] (K:Keep w bs vs W):Keep w bs vs W':=K.up u.below
theorem add (K:Keep w bs vs W) {base:Nat} {ok:Nat→Prop} (hb:Below W.heap.size W W') (ho:Kd.V (Kd.int .u64) 91 W' base (fun k=>ok k∨W.heap.size≤k) v xs) (hok:∀k,ok k→k<w.heap.size∨∀b∈bs,k≠b.1):Keep w bs ((v,xs)::vs) W':=by
 have K':=K.up hb
 refine⟨K'.below,K'.blk,K'.nod,fun x hx=>?_⟩
 rcases List.mem_cons.1 hx with rfl|hx
 ·refine Kd.V_lower (Kd.V_mono ho fun k hk b hbm=>?_) (Nat.zero_le _)
  have h1:=K.blk b hbm
  have h2:=blk_lt h1.2
  rcases hk with hk|hk
  ·rcases hok k hk with h|h
   ·omega
   exact h b hbm
  omega
 exact K'.val x hx
theorem put (K:Keep w bs vs W) (n:Nat) (hn:bs[n]? = some (g,cs,t)) (i:Nat) (x:Value) (e:bs.set n (g,cs.setIfInBounds i x,t)=bs'):Keep w bs' vs (W.setCell ⟨g,i,none⟩ x):=by
 subst e
 have hm:=List.mem_of_getElem? hn
 have hlt:n<bs.length:=(List.getElem?_eq_some_iff.1 hn).1
 have hmap:(bs.set n (g,cs.setIfInBounds i x,t)).map (·.1)=bs.map (·.1):=by
  rw[List.map_set]
  refine List.ext_getElem? fun j=>?_
  rw[List.getElem?_set]
  by_cases hj:n=j
  ·subst hj
   simp[hn]
   exact hlt
  rw[if_neg hj]
 have hge:=(K.blk _ hm).1
 have hmem:∀k,(∀b∈bs,k≠b.1)↔∀b∈bs.set n (g,cs.setIfInBounds i x,t),k≠b.1:=fun k=>by
  have h1:∀l:List Bx,(∀b∈l,k≠b.1)↔k∉l.map (·.1):=fun l=>⟨fun h hm=>by obtain⟨b,hb,e⟩:=List.mem_map.1 hm;exact h b hb e.symm,fun h b hb e=>h (List.mem_map.2 ⟨b,hb,e.symm⟩)⟩
  rw[h1,h1,hmap]
 refine⟨below_set K.below hge,fun b hb=>?_,by rw[hmap];exact K.nod,fun v hv=>Kd.V_mono (Kd.V_far (p:=⟨g,i,none⟩) (K.val v hv) (fun k hk=>hk _ hm) x) fun k hk=>(hmem k).1 hk⟩
 obtain⟨j,hj⟩:=List.getElem?_of_mem hb
 rw[List.getElem?_set]at hj
 by_cases hnj:n=j
 ·subst hnj
  rw[if_pos rfl,if_pos hlt]at hj
  obtain rfl:=Option.some.inj hj
  exact⟨hge,blk_put (K.blk _ hm).2 i x rfl⟩
 rw[if_neg hnj]at hj
 have hb':=List.mem_of_getElem? hj
 have hne:b.1≠g:=fun e=>hnj (by
  have h1:(bs.map (·.1))[n]? = some g:=by rw[List.getElem?_map,hn];rfl
  have h2:(bs.map (·.1))[j]? = some g:=by rw[List.getElem?_map,hj,←e];rfl
  exact(List.getElem?_inj (by simpa using hlt) K.nod).1 (h1.trans h2.symm))
 exact⟨(K.blk b hb').1,blk_far (K.blk b hb').2 (p:=⟨g,i,none⟩) hne x⟩
theorem heap (K:Keep w bs vs W) (n:Nat) (hn:bs[n]? = some (g,cs,t)):W.heap[g]? = some (.cells cs t (0,0)):=(K.blk _ (List.mem_of_getElem? hn)).2
theorem R2 (K:Keep w bs vs W) (ho:Kd.R (Kd.int .u64) 91 W' W.heap.size (fun _=>True) v xs) (n:Nat) (hn:bs[n]? = some (g,cs,t)) (i j:Nat) (x y:Value):Kd.R (Kd.int .u64) 91 ((W'.setCell ⟨g,i,none⟩ x).setCell ⟨g,j,none⟩ y) w.heap.size (fun _=>True) v xs:=by
 have hlt:=blk_lt (K.heap n hn)
 refine Kd.R_mono (Kd.R_lower (Kd.R_far (p:=⟨g,j,none⟩) (Kd.R_far (p:=⟨g,i,none⟩) (Kd.R_bound ho) ?_ x) ?_ y) (below_size K.below)) (fun _ _=>trivial)
 ·intro k hk
  show k≠g
  omega
 intro k hk
 show k≠g
 omega
theorem V (K:Keep w bs vs W) (n:Nat) (hn:vs[n]? = some (v,xs)):Kd.V (Kd.int .u64) 91 W W.heap.size (fun k=>∀b∈bs,k≠b.1) v xs:=K.val _ (List.mem_of_getElem? hn)
theorem slice (K:Keep w bs vs W) (n:Nat) (hn:vs[n]? = some (v,xs)):∃A c,v=.slice A xs.length c:=Kd.V_slice (K.V n hn)
theorem C (K:Keep w bs vs W) (n:Nat) {A:Option Addr} {c:Nat} (hn:vs[n]? = some (.slice A xs.length c,xs)):Kd.C (Kd.int .u64) W A xs.length xs:=(Kd.V_reads' (K.V n hn)).2.2
end Keep
theorem bindA {α β:Type} {o:Option α} {f:α→Option β} {r:β} (h:o.bind f=some r):∃a,Aside0 (o=some a)∧f a=some r:=by
 obtain⟨a,h1,h2⟩:=Option.bind_eq_some_iff.mp h
 exact⟨a,⟨h1⟩,h2⟩
theorem kls:(∀l:List Bx,[]++l=l)∧(∀(x:Bx) (l m:List Bx),x::l++m=x::(l++m))∧(∀(xs:List Bx) (x a:Bx),(x::xs).set 0 a=a::xs)∧(∀(xs:List Bx) (x a:Bx) (i:Nat),(x::xs).set (i+1) a=x::xs.set i a):=
 ⟨fun _=>rfl,fun _ _ _=>rfl,fun _ _ _=>rfl,fun _ _ _ _=>rfl⟩
section
variable {P:Program} {ops:Array Oper} {Q:Exit→Act→World→Prop} {md:Region.Mode} {S:World→Prop} {ds:List Nat}
theorem kbx {o:Oper} {a:Act} {W:World} {Kc:Act→World→Prop} (cs:Array Value) (t:TypeId) (N:Tmp)
  (h:∀g,g=W.heap.size→∀w1,w1.heap[g]? = some (.cells cs t (0,0))→Below W.heap.size W w1→Kc (a.put o.dst (.pointer (some ⟨g,0,none⟩))) w1)
  (hg:Region.wanted o (yielded ops a.tmps)=true:=by rfl) (hd:o.dst=some N:=by rfl) (hr:(execOp a.eval o).run P W=.ok (.value (.pointer (some ⟨W.heap.size,0,none⟩))) (W.alloc (.cells cs t (0,0))):=by first|(go_simp;done)|(go_simp;rfl)):if Region.wanted o (yielded ops a.tmps)=true then Oper.wp P o a W Kc Q else Kc (a.put o.dst undef) W:=
 box_step hg hd hr h
theorem knq {fuel:Nat} {l:Array Bool} {a a':Act} {w:World} (h:wpAnyLast P md ops Q S ds fuel l a' w) (ha:a=a':=by first|(simp only[putAll,Act.put,kss,i64_w,i32_w];done)|(simp only[putAll,Act.put,kss,i64_w,i32_w];rfl)|rfl):wpAnyLast P md ops Q S ds fuel l a w:=norm_ ha h
end
end Go.Proofs.YtncomlmhagaajaaGreatDoor.Mine
namespace Go.Proofs.YtncomlmhagaajaaGreatDoor.Mine
open Go Go.RowKit Go.Proofs.YtncomlmhagaajaaGreatDoorW.PrintWords Go.Proofs.YtncomlmhagaajaaGreatDoorW.PrintLast Go.Proofs.YtncomlmhagaajaaGreatDoorW.PrintMore
structure KV where
 {α:Type}
 kd:Kd α
 e:TypeId
 v:Value
 xs:List α
 ok:Nat→Prop
def KOk (n:Nat) (bs:List Bx) (ok:Nat→Prop) (k:Nat):Prop:=(ok k∨n≤k)∧∀b∈bs,k≠b.1
structure Kp (w:World) (bs:List Bx) (vs os:List KV) (W:World):Prop where
 below:Below w.heap.size w W
 blk:∀b∈bs,w.heap.size≤b.1∧W.heap[b.1]? = some (.cells b.2.1 b.2.2 (0,0))
 nod:(bs.map (·.1)).Nodup
 val:∀v∈vs,Kd.V v.kd v.e W 0 (KOk w.heap.size bs v.ok) v.v v.xs
 own:∀v∈os,v.kd.R v.e W w.heap.size (fun k=>∀b∈bs,k≠b.1) v.v v.xs
 sep:os.Pairwise fun a b=>∀k,a.v.ownBlock=some k→b.v.ownBlock≠some k
theorem mem_insI {α:Type _} {a b:α}:∀ {l:List α} {i:Nat},a∈l.insertIdx i b→a=b∨a∈l:=fun {l i} h=>by
 by_cases hi:i≤l.length
 ·exact(List.mem_insertIdx hi).1 h
 exact .inr (by rwa [List.insertIdx_of_length_lt Z0]at h)
namespace Kp
variable {w W W':World} {bs bs':List Bx} {vs vs' os os':List KV} {g:Nat} {cs:Array Value} {t:TypeId}
theorem refl (w:World):Kp w [] [] [] w:=⟨Below.refl _ _,fun _ h=>absurd h Z1,List.nodup_nil,fun _ h=>absurd h Z1,fun _ h=>absurd h Z1,List.Pairwise.nil⟩
theorem parV {α:Type} {kd:Kd α} {e base:Nat} {v:Value} {xs:List α} {P:Nat→Prop} (K:Kp w [] vs os w) (h:Kd.V kd e w base P v xs):Kp w [] (vs++[⟨kd,e,v,xs,P⟩]) os w:=
 ⟨K.below,K.blk,K.nod,fun x hx=>by
  rcases List.mem_append.1 hx with hx|hx
  ·exact K.val x hx
  obtain rfl:=List.mem_singleton.1 hx
  exact Kd.V_lower (Kd.V_mono h fun k hk=>⟨.inl hk,fun b hb=>absurd hb Z1⟩) (Nat.zero_le _),K.own,K.sep⟩
theorem up (K:Kp w bs vs os W) (hb:Below W.heap.size W W'):Kp w bs vs os W':=
 ⟨K.below.trans (hb.mono K.below.size),fun b h=>⟨(K.blk b h).1,blk_below (K.blk b h).2 hb⟩,K.nod,fun v h=>Kd.V_below (K.val v h) hb,fun v h=>Kd.R_below (K.own v h) hb,K.sep⟩
theorem u [u:UpO W W'] (K:Kp w bs vs os W):Kp w bs vs os W':=K.up u.below
theorem perm (K:Kp w bs vs os W) (hp:bs.Perm bs'):Kp w bs' vs os W:=
 ⟨K.below,fun b h=>K.blk b (hp.mem_iff.2 h),(hp.map _).nodup_iff.1 K.nod,fun v h=>Kd.V_mono (K.val v h) fun _ hk=>⟨hk.1,fun b hb=>hk.2 b (hp.mem_iff.2 hb)⟩,fun v h=>Kd.R_mono (K.own v h) fun _ hk b hb=>hk b (hp.mem_iff.2 hb),K.sep⟩
theorem box (K:Kp w bs vs os W) (hg:g=W.heap.size) (hx:W'.heap[g]? = some (.cells cs t (0,0))) (hb:Below W.heap.size W W'):Kp w (bs++[(g,cs,t)]) vs os W':=by
 have K':=K.up hb
 refine⟨K'.below,fun b h=>?_,?_,fun v h=>?_,fun v h=>?_,K.sep⟩
 ·rcases List.mem_append.1 h with h|h
  ·exact K'.blk b h
  obtain rfl:=List.mem_singleton.1 h
  exact⟨by rw[hg];exact below_size K.below,hx⟩
 ·rw[List.map_append,List.nodup_append]
  refine⟨K.nod,Z1,fun a ha b hb'=>?_⟩
  obtain rfl:b=g:=by simpa using hb'
  obtain⟨c,hc,rfl⟩:=List.mem_map.1 ha
  have:=blk_lt (K.blk c hc).2
  omega
 ·refine Kd.V_mono (Kd.V_below (Kd.V_elderB (K.val v h) g (Nat.le_of_eq hg.symm)) hb) fun k hk=>⟨hk.1.1,fun b hbm=>?_⟩
  rcases List.mem_append.1 hbm with hm|hm
  ·exact hk.1.2 b hm
  obtain rfl:=List.mem_singleton.1 hm
  exact hk.2
 refine Kd.R_mono (Kd.R_below (Kd.R_elderB (K.own v h) g (Nat.le_of_eq hg.symm)) hb) fun k hk b hbm=>?_
 rcases List.mem_append.1 hbm with hm|hm
 ·exact hk.1 b hm
 obtain rfl:=List.mem_singleton.1 hm
 exact hk.2
theorem boxI {l:List Bx} (i:Nat) (K:Kp w (bs++l) vs os W) (hi:i≤l.length) (hg:g=W.heap.size) (hx:W'.heap[g]? = some (.cells cs t (0,0))) (hb:Below W.heap.size W W'):Kp w (bs++l.insertIdx i (g,cs,t)) vs os W':=by
 refine(K.box hg hx hb).perm ?_
 rw[List.append_assoc]
 refine List.Perm.append_left _ (List.Perm.trans ?_ (List.perm_insertIdx (g,cs,t) l hi).symm)
 exact List.perm_append_comm (l₂:=[(g,cs,t)])
theorem out (K:Kp w bs vs os W) {k:Nat} (h:W.heap.size≤k) (ok:Nat→Prop):KOk w.heap.size bs ok k:=
 ⟨.inr (Nat.le_trans (below_size K.below) h),fun b hb e=>by have:=blk_lt (K.blk b hb).2;omega⟩
theorem add {α:Type} {kd:Kd α} {e base:Nat} {v:Value} {xs:List α} {ok:Nat→Prop} (okn:Nat→Prop) (K:Kp w bs vs os W) (hb:Below W.heap.size W W') (ho:Kd.V kd e W' base (fun k=>ok k∨W.heap.size≤k) v xs) (hok:∀k,ok k→KOk w.heap.size bs okn k):Kp w bs (vs++[⟨kd,e,v,xs,okn⟩]) os W':=by
 have K':=K.up hb
 refine⟨K'.below,K'.blk,K'.nod,fun x hx=>?_,K'.own,K'.sep⟩
 rcases List.mem_append.1 hx with hx|hx
 ·exact K'.val x hx
 obtain rfl:=List.mem_singleton.1 hx
 exact Kd.V_lower (Kd.V_mono ho fun k hk=>hk.elim (hok k) fun h=>K.out h okn) (Nat.zero_le _)
theorem addR2 {α β:Type} {kd:Kd α} {kd2:Kd β} {e e2:Nat} {v v2:Value} {xs:List α} {xs2:List β} (K:Kp w bs vs os W) (hb:Below W.heap.size W W') (ho:kd.R e W' W.heap.size (fun k=>some k≠v2.ownBlock) v xs) (ho2:kd2.R e2 W' W.heap.size (fun k=>some k≠v.ownBlock) v2 xs2) :
  Kp w bs (vs++[⟨kd,e,v,xs,fun _=>False⟩]++[⟨kd2,e2,v2,xs2,fun _=>False⟩]) (os++[⟨kd,e,v,xs,fun _=>True⟩]++[⟨kd2,e2,v2,xs2,fun _=>True⟩]) W':=by
 have K1:=K.add (base:=0) (ok:=fun _=>False) (fun _=>False) hb (Kd.V_mono (Kd.R_V (Kd.R_bound ho)) fun k hk=>.inr hk.2.1) (fun k h=>h.elim)
 have K2:=K.add (base:=0) (ok:=fun _=>False) (fun _=>False) hb (Kd.V_mono (Kd.R_V (Kd.R_bound ho2)) fun k hk=>.inr hk.2.1) (fun k h=>h.elim)
 have K':=K.up hb
 have hk1:∀k,W.heap.size≤k→∀b∈bs,k≠b.1:=fun k hk b hb e=>by have:=blk_lt (K.blk b hb).2;omega
 refine⟨K'.below,K'.blk,K'.nod,fun x hx=>?_,fun x hx=>?_,?_⟩
 ·rcases List.mem_append.1 hx with hx|hx
  ·exact K1.val x hx
  exact K2.val x (List.mem_append_right _ hx)
 ·rcases List.mem_append.1 hx with hx|hx
  ·rcases List.mem_append.1 hx with hx|hx
   ·exact K'.own x hx
   obtain rfl:=List.mem_singleton.1 hx
   exact Kd.R_lower (Kd.R_mono (Kd.R_bound ho) fun k hk=>hk1 k hk.2.1) (below_size K.below)
  obtain rfl:=List.mem_singleton.1 hx
  exact Kd.R_lower (Kd.R_mono (Kd.R_bound ho2) fun k hk=>hk1 k hk.2.1) (below_size K.below)
 rw[List.pairwise_append,List.pairwise_append]
 refine⟨⟨K.sep,List.pairwise_singleton _ _,fun a ha b hb' k h1 h2=>?_⟩,List.pairwise_singleton _ _,fun a ha b hb' k h1 h2=>?_⟩
 ·obtain rfl:=List.mem_singleton.1 hb'
  have g1:=Kd.R_base ho k h2
  have g2:=Kd.R_lt (K.own a ha) k h1
  omega
 obtain rfl:=List.mem_singleton.1 hb'
 rcases List.mem_append.1 ha with ha|ha
 ·have g1:=Kd.R_base ho2 k h2
  have g2:=Kd.R_lt (K.own a ha) k h1
  omega
 obtain rfl:=List.mem_singleton.1 ha
 exact ho.1 k h1 h2.symm
theorem put (K:Kp w bs vs os W) (n:Nat) (hn:bs[n]? = some (g,cs,t)) (i:Nat) (x:Value) (e:bs.set n (g,cs.setIfInBounds i x,t)=bs'):Kp w bs' vs os (W.setCell ⟨g,i,none⟩ x):=by
 subst e
 have hm:=List.mem_of_getElem? hn
 have hlt:n<bs.length:=(List.getElem?_eq_some_iff.1 hn).1
 have hmap:(bs.set n (g,cs.setIfInBounds i x,t)).map (·.1)=bs.map (·.1):=by
  rw[List.map_set]
  refine List.ext_getElem? fun j=>?_
  rw[List.getElem?_set]
  by_cases hj:n=j
  ·subst hj
   simp[hn]
   exact hlt
  rw[if_neg hj]
 have hge:=(K.blk _ hm).1
 have hmem:∀k,(∀b∈bs,k≠b.1)↔∀b∈bs.set n (g,cs.setIfInBounds i x,t),k≠b.1:=fun k=>by
  have h1:∀l:List Bx,(∀b∈l,k≠b.1)↔k∉l.map (·.1):=fun l=>⟨fun h hm=>by obtain⟨b,hb,e⟩:=List.mem_map.1 hm;exact h b hb e.symm,fun h b hb e=>h (List.mem_map.2 ⟨b,hb,e.symm⟩)⟩
  rw[h1,h1,hmap]
 refine⟨below_set K.below hge,fun b hb=>?_,by rw[hmap];exact K.nod,fun v hv=>Kd.V_mono (Kd.V_far (p:=⟨g,i,none⟩) (K.val v hv) (fun k hk=>hk.2 _ hm) x) fun k hk=>⟨hk.1,(hmem k).1 hk.2⟩,fun v hv=>Kd.R_mono (Kd.R_far (p:=⟨g,i,none⟩) (K.own v hv) (fun k hk=>hk _ hm) x) fun k hk=>(hmem k).1 hk,K.sep⟩
 obtain⟨j,hj⟩:=List.getElem?_of_mem hb
 rw[List.getElem?_set]at hj
 by_cases hnj:n=j
 ·subst hnj
  rw[if_pos rfl,if_pos hlt]at hj
  obtain rfl:=Option.some.inj hj
  exact⟨hge,blk_put (K.blk _ hm).2 i x rfl⟩
 rw[if_neg hnj]at hj
 have hb':=List.mem_of_getElem? hj
 have hne:b.1≠g:=fun e=>hnj (by
  have h1:(bs.map (·.1))[n]? = some g:=by rw[List.getElem?_map,hn];rfl
  have h2:(bs.map (·.1))[j]? = some g:=by rw[List.getElem?_map,hj,←e];rfl
  exact(List.getElem?_inj (by simpa using hlt) K.nod).1 (h1.trans h2.symm))
 exact⟨(K.blk b hb').1,blk_far (K.blk b hb').2 (p:=⟨g,i,none⟩) hne x⟩
theorem sub (K:Kp w bs vs os W) (h:∀v∈vs',v∈vs):Kp w bs vs' os W:=⟨K.below,K.blk,K.nod,fun v hv=>K.val v (h v hv),K.own,K.sep⟩
theorem heap (K:Kp w bs vs os W) (n:Nat) (hn:bs[n]? = some (g,cs,t)):W.heap[g]? = some (.cells cs t (0,0)):=(K.blk _ (List.mem_of_getElem? hn)).2
theorem cell (K:Kp w bs vs os W) (n:Nat) (hn:bs[n]? = some (g,cs,t)) (i:Nat) {x:Value} (hx:cs[i]? = some x):W.cell? ⟨g,i,none⟩=some x:=(blk_cell (K.heap n hn) i).trans hx
theorem fz (K:Kp w bs vs os W) (n:Nat) (hn:bs[n]? = some (g,cs,t)) (i:Nat):W.frozen? ⟨g,i,none⟩=false:=blk_frozen (K.heap n hn) i
section
variable {α:Type} {kd:Kd α} {e:Nat} {v:Value} {xs:List α} {ok:Nat→Prop}
theorem V (K:Kp w bs vs os W) (n:Nat) (hn:vs[n]? = some ⟨kd,e,v,xs,ok⟩):Kd.V kd e W W.heap.size (KOk w.heap.size bs ok) v xs:=K.val _ (List.mem_of_getElem? hn)
theorem slice (K:Kp w bs vs os W) (n:Nat) (hn:vs[n]? = some ⟨kd,e,v,xs,ok⟩):∃A c,v=.slice A xs.length c:=Kd.V_slice (K.V n hn)
theorem C (K:Kp w bs vs os W) (n:Nat) {A:Option Addr} {c:Nat} (hn:vs[n]? = some ⟨kd,e,.slice A xs.length c,xs,ok⟩):Kd.C kd W A xs.length xs:=(Kd.V_reads' (K.V n hn)).2.2
theorem le (K:Kp w bs vs os W) (n:Nat) {A:Option Addr} {c:Nat} (hn:vs[n]? = some ⟨kd,e,.slice A xs.length c,xs,ok⟩):xs.length≤c:=(Kd.V_reads' (K.V n hn)).2.1
theorem hand (K:Kp w bs vs os W) (n:Nat) (hn:vs[n]? = some ⟨kd,e,v,xs,ok⟩) {P:Nat→Prop} (hP:∀k,ok k∨w.heap.size≤k→P k):Kd.V kd e W w.heap.size P v xs:=Kd.V_mono (K.V n hn) fun k hk=>hP k hk.1
theorem R (K:Kp w bs vs os W) (n:Nat) (hn:os[n]? = some ⟨kd,e,v,xs,ok⟩):kd.R e W w.heap.size (fun _=>True) v xs:=Kd.R_mono (K.own _ (List.mem_of_getElem? hn)) fun _ _=>trivial
theorem Rne (K:Kp w bs vs os W) (n:Nat) (hE:kd.E=[]) (hn:os[n]? = some ⟨kd,e,v,xs,ok⟩) {P:Nat→Prop} (hP:∀k,v.ownBlock=some k→P k):kd.R e W w.heap.size P v xs:=Kd.R_reok hE (K.own _ (List.mem_of_getElem? hn)) hP
theorem apart (K:Kp w bs vs os W) (n m:Nat) {β:Type} {kd2:Kd β} {e2:Nat} {v2:Value} {ys:List β} {ok2:Nat→Prop} (hn:os[n]? = some ⟨kd,e,v,xs,ok⟩) (hm:os[m]? = some ⟨kd2,e2,v2,ys,ok2⟩) (hne:n≠m):∀k,v.ownBlock=some k→some k≠v2.ownBlock:=by
 intro k h1 h2
 obtain⟨ln,en⟩:=List.getElem?_eq_some_iff.1 hn
 obtain⟨lm,em⟩:=List.getElem?_eq_some_iff.1 hm
 have hs:=List.pairwise_iff_getElem.1 K.sep
 rcases Nat.lt_or_gt_of_ne hne with h|h
 ·have:=hs n m ln lm h k (by rw[en];exact h1)
  rw[em]at this
  exact this h2.symm
 have:=hs m n lm ln h k (by rw[em];exact h2.symm)
 rw[en]at this
 exact this h1
end
end Kp
theorem mem_appI {α:Type _} {a b:α} {l m:List α} {i:Nat} (h:a∈m++l.insertIdx i b):a=b∨a∈m++l:=by
 rcases List.mem_append.1 h with h|h
 ·exact .inr (List.mem_append_left _ h)
 exact(mem_insI h).imp_right (List.mem_append_right _)
theorem perm_appI {α:Type _} {b:α} {l m:List α} {i:Nat} (hi:i≤l.length):(m++l.insertIdx i b).Perm (b::(m++l)):=
 ((List.perm_insertIdx b l hi).append_left m).trans List.perm_middle
namespace Kp
variable {w W W':World} {bs:List Bx} {vs vs' os l l':List KV}
theorem addI {α:Type} {kd:Kd α} {e base:Nat} {v:Value} {xs:List α} {ok:Nat→Prop} (i:Nat) (okn:Nat→Prop) (K:Kp w bs (vs++l) os W) (hb:Below W.heap.size W W') (ho:Kd.V kd e W' base (fun k=>ok k∨W.heap.size≤k) v xs) (hok:∀k,ok k→KOk w.heap.size bs okn k):Kp w bs (vs++l.insertIdx i ⟨kd,e,v,xs,okn⟩) os W':=by
 have K':=K.up hb
 refine⟨K'.below,K'.blk,K'.nod,fun x hx=>?_,K'.own,K'.sep⟩
 rcases mem_appI hx with rfl|hx
 ·exact Kd.V_lower (Kd.V_mono ho fun k hk=>hk.elim (hok k) fun h=>K.out h okn) (Nat.zero_le _)
 exact K'.val x hx
theorem addFI {α:Type} {kd:Kd α} {e base:Nat} {v:Value} {xs:List α} (i:Nat) (okn:Nat→Prop) (K:Kp w bs (vs++l) os W) (hb:Below W.heap.size W W') (ho:Kd.V kd e W' base (fun k=>W.heap.size≤k) v xs):Kp w bs (vs++l.insertIdx i ⟨kd,e,v,xs,okn⟩) os W':=
 K.addI (ok:=fun _=>False) i okn hb (Kd.V_mono ho fun _ h=>.inr h) fun _ h=>h.elim
theorem moreI {α:Type} {kd:Kd α} {e base:Nat} {v:Value} {xs:List α} {ok:Nat→Prop} (i:Nat) (okn:Nat→Prop) (K:Kp w bs vs' os W) (K2:Kp w bs (vs++l) os W') (ho:Kd.V kd e W' base (fun k=>ok k∨W.heap.size≤k) v xs) (hok:∀k,ok k→KOk w.heap.size bs okn k):Kp w bs (vs++l.insertIdx i ⟨kd,e,v,xs,okn⟩) os W':=by
 refine⟨K2.below,K2.blk,K2.nod,fun x hx=>?_,K2.own,K2.sep⟩
 rcases mem_appI hx with rfl|hx
 ·exact Kd.V_lower (Kd.V_mono ho fun k hk=>hk.elim (hok k) fun h=>K.out h okn) (Nat.zero_le _)
 exact K2.val x hx
theorem ownI {α:Type} {kd:Kd α} {e:Nat} {v:Value} {xs:List α} {ok:Nat→Prop} (i:Nat) (K:Kp w bs vs (os++l) W) (hb:Below W.heap.size W W') (ho:kd.R e W' W.heap.size ok v xs) (hi:i≤l.length):Kp w bs vs (os++l.insertIdx i ⟨kd,e,v,xs,fun _=>True⟩) W':=by
 have K':=K.up hb
 have hk1:∀k,W.heap.size≤k→∀b∈bs,k≠b.1:=fun k hk b hb e=>by have:=blk_lt (K.blk b hb).2;omega
 refine⟨K'.below,K'.blk,K'.nod,K'.val,fun x hx=>?_,?_⟩
 ·rcases mem_appI hx with rfl|hx
  ·exact Kd.R_lower (Kd.R_mono (Kd.R_bound ho) fun k hk=>hk1 k hk.2.1) (below_size K.below)
  exact K'.own x hx
 refine((perm_appI hi).symm.pairwise_iff (fun {_ _} h k h1 h2=>h k h2 h1)).1 (List.pairwise_cons.2 ⟨fun b hbm k h1 h2=>?_,K.sep⟩)
 have g1:=Kd.R_base ho k h1
 have g2:=Kd.R_lt (K.own b hbm) k h2
 omega
theorem addRI {α:Type} {kd:Kd α} {e:Nat} {v:Value} {xs:List α} {ok:Nat→Prop} (j i:Nat) (K:Kp w bs (vs++l) (os++l') W) (hb:Below W.heap.size W W') (ho:kd.R e W' W.heap.size ok v xs) (hi:i≤l'.length):Kp w bs (vs++l.insertIdx j ⟨kd,e,v,xs,fun _=>False⟩) (os++l'.insertIdx i ⟨kd,e,v,xs,fun _=>True⟩) W':=by
 have K1:=K.addFI (base:=0) j (fun _=>False) hb (Kd.V_mono (Kd.R_V (Kd.R_bound ho)) fun k hk=>hk.2.1)
 have K2:=K.ownI i hb ho hi
 exact⟨K2.below,K2.blk,K2.nod,K1.val,K2.own,K2.sep⟩
theorem addRE {α:Type} {kd:Kd α} {e:Nat} {v:Value} {xs:List α} {ok:Nat→Prop} (K:Kp w bs vs os W) (hb:Below W.heap.size W W') (ho:kd.R e W' W.heap.size ok v xs):Kp w bs (vs++[⟨kd,e,v,xs,fun _=>False⟩]) (os++[⟨kd,e,v,xs,fun _=>True⟩]) W':=by
 have K0:Kp w bs (vs++[]) (os++[]) W:=by simpa using K
 exact K0.addRI 0 0 hb ho (Nat.le_refl _)
end Kp
theorem KOk.t {n k:Nat} {bs:List Bx} {ok:Nat→Prop} (h:KOk n bs ok k):KOk n bs (fun _=>True) k:=⟨.inl trivial,h.2⟩
theorem KOk.l {n k:Nat} {bs:List Bx} {ok ok2:Nat→Prop} (h:KOk n bs ok k):KOk n bs (fun k=>ok k∨ok2 k) k:=⟨h.1.elim (fun h=>.inl (.inl h)) .inr,h.2⟩
theorem KOk.r {n k:Nat} {bs:List Bx} {ok ok2:Nat→Prop} (h:KOk n bs ok2 k):KOk n bs (fun k=>ok k∨ok2 k) k:=⟨h.1.elim (fun h=>.inl (.inr h)) .inr,h.2⟩
namespace Kp
variable {w W W':World} {bs bs':List Bx} {vs vs' os os':List KV} {g:Nat} {cs:Array Value} {t:TypeId}
theorem addF {α:Type} {kd:Kd α} {e base:Nat} {v:Value} {xs:List α} (okn:Nat→Prop) (K:Kp w bs vs os W) (hb:Below W.heap.size W W') (ho:Kd.V kd e W' base (fun k=>W.heap.size≤k) v xs):Kp w bs (vs++[⟨kd,e,v,xs,okn⟩]) os W':=
 K.add (ok:=fun _=>False) okn hb (Kd.V_mono ho fun _ h=>.inr h) fun _ h=>h.elim
theorem more {α:Type} {kd:Kd α} {e base:Nat} {v:Value} {xs:List α} {ok:Nat→Prop} (okn:Nat→Prop) (K:Kp w bs vs os W) (K2:Kp w bs vs' os W') (ho:Kd.V kd e W' base (fun k=>ok k∨W.heap.size≤k) v xs) (hok:∀k,ok k→KOk w.heap.size bs okn k):Kp w bs (vs'++[⟨kd,e,v,xs,okn⟩]) os W':=by
 refine⟨K2.below,K2.blk,K2.nod,fun x hx=>?_,K2.own,K2.sep⟩
 rcases List.mem_append.1 hx with hx|hx
 ·exact K2.val x hx
 obtain rfl:=List.mem_singleton.1 hx
 exact Kd.V_lower (Kd.V_mono ho fun k hk=>hk.elim (hok k) fun h=>K.out h okn) (Nat.zero_le _)
theorem moreF {α:Type} {kd:Kd α} {e base:Nat} {v:Value} {xs:List α} (okn:Nat→Prop) (K:Kp w bs vs os W) (K2:Kp w bs vs' os W') (ho:Kd.V kd e W' base (fun k=>W.heap.size≤k) v xs):Kp w bs (vs'++[⟨kd,e,v,xs,okn⟩]) os W':=
 K.more (ok:=fun _=>False) okn K2 (Kd.V_mono ho fun _ h=>.inr h) fun _ h=>h.elim
theorem cell2 (K:Kp w bs vs os W) (n:Nat) {x y:Value} (hn:bs[n]? = some (g,#[x,y],t)):W.cell? ⟨g,0,none⟩=some x∧W.cell? ⟨g,1,none⟩=some y:=⟨K.cell n hn 0 rfl,K.cell n hn 1 rfl⟩
theorem abs (K:Kp w bs vs os W):∃B V O,Aside0 (B=bs)∧Aside0 (V=vs)∧Aside0 (O=os)∧Kp w (B++[]) (V++[]) (O++[]) W:=⟨bs,vs,os,⟨rfl⟩,⟨rfl⟩,⟨rfl⟩,by simpa using K⟩
theorem put2 (K:Kp w bs vs os W) (n:Nat) {x y:Value} (x' y':Value) (hn:bs[n]? = some (g,#[x,y],t)):Kp w (bs.set n (g,#[x',y'],t)) vs os ((W.setCell ⟨g,0,none⟩ x').setCell ⟨g,1,none⟩ y'):=by
 have hlt:n<bs.length:=(List.getElem?_eq_some_iff.1 hn).1
 have K1:=K.put n hn 0 x' rfl
 have K2:=K1.put n (g:=g) (cs:=#[x',y]) (t:=t) (by rw[List.getElem?_set_self hlt];rfl) 1 y' rfl
 rw[List.set_set]at K2
 exact K2
variable {w W W':World} {bs:List Bx} {vs vs' os os' l l':List KV}
theorem permO (K:Kp w bs vs os W) (hp:os.Perm os'):Kp w bs vs os' W:=
 ⟨K.below,K.blk,K.nod,K.val,fun v h=>K.own v (hp.mem_iff.2 h),(hp.pairwise_iff (fun {_ _} h k h1 h2=>h k h2 h1)).1 K.sep⟩
theorem addR2I {α β:Type} {kd:Kd α} {kd2:Kd β} {e e2:Nat} {v v2:Value} {xs:List α} {xs2:List β} (j i:Nat) (K:Kp w bs (vs++l) (os++l') W) (hb:Below W.heap.size W W') (ho:kd.R e W' W.heap.size (fun k=>some k≠v2.ownBlock) v xs) (ho2:kd2.R e2 W' W.heap.size (fun k=>some k≠v.ownBlock) v2 xs2) (hi:i≤l'.length) :
  Kp w bs (vs++(l.insertIdx j ⟨kd,e,v,xs,fun _=>False⟩).insertIdx (j+1) ⟨kd2,e2,v2,xs2,fun _=>False⟩) (os++(l'.insertIdx i ⟨kd,e,v,xs,fun _=>True⟩).insertIdx (i+1) ⟨kd2,e2,v2,xs2,fun _=>True⟩) W':=by
 have K1:=K.addR2 hb ho ho2
 refine(K1.sub (fun x hx=>?_)).permO ?_
 ·simp only[List.mem_append,List.mem_singleton]
  rcases mem_appI hx with h|h
  ·exact .inr h
  rcases mem_appI h with h|h
  ·exact .inl (.inr h)
  exact .inl (.inl (List.mem_append.1 h))
 have h1:i+1≤(l'.insertIdx i ⟨kd,e,v,xs,fun _=>True⟩).length:=by rw[List.length_insertIdx_of_le_length hi];omega
 have h2:=((perm_appI (m:=os) (b:=(⟨kd2,e2,v2,xs2,fun _=>True⟩:KV)) h1).trans ((perm_appI (m:=os) hi).cons _)).symm
 refine List.Perm.trans ?_ h2
 refine List.Perm.trans List.perm_append_comm ?_
 exact(List.perm_append_comm (l₂:=[(⟨kd,e,v,xs,fun _=>True⟩:KV)])).cons _
end Kp
section
variable {P:Program} {ops:Array Oper} {Q:Exit→Act→World→Prop} {rest:List Oper} {o:Oper} {a:Act} {w W:World} {bs vs os} {g t:Nat} {a0 b0:Value} {md:Region.Mode} {S:World→Prop} {ds:List Nat}
theorem kst2 (n:Nat) (x y:Value) (K:Kp w bs vs os W) (hn:bs[n]? = some (g,#[a0,b0],t))
  (hrun:W.cell? ⟨g,0,none⟩=some a0→W.cell? ⟨g,1,none⟩=some b0→W.frozen? ⟨g,0,none⟩=false→W.frozen? ⟨g,1,none⟩=false→(execOp a.eval o).run P W=.ok .skip ((W.setCell ⟨g,0,none⟩ x).setCell ⟨g,1,none⟩ y))
  (h:∀W1,Kp w (bs.set n (g,#[x,y],t)) vs os W1→wpList P ops Q rest a W1) (hd:o.dst=none:=by rfl) (hgd:o.guard=none:=by rfl):wpList P ops Q (o::rest) a W:=
 wpList_plain hgd fun K' hK=>by
  have c:=K.cell2 n hn
  unfold Oper.wp
  rw[hrun c.1 c.2 (K.fz n hn 0) (K.fz n hn 1)]
  show K' (a.put o.dst undef) _
  rw[hd]
  exact hK _ _ (h _ (K.put2 n x y hn))
theorem klast2 {i:Nat} {oi:Oper} {fuel:Nat} {l:Array Bool} (l':Array Bool) (n:Nat) (x y:Value) (K:Kp w bs vs os W) (hn:bs[n]? = some (g,#[a0,b0],t)) (hi:ops[i]? = some oi) (hN:oi.dst=none) (hc:readyB md ops l l' i=true) (hd:i∈ds) (hw:Region.wanted oi (yielded ops a.tmps)=true)
  (hrun:W.cell? ⟨g,0,none⟩=some a0→W.cell? ⟨g,1,none⟩=some b0→W.frozen? ⟨g,0,none⟩=false→W.frozen? ⟨g,1,none⟩=false→(execOp a.eval oi).run P W=.ok .skip ((W.setCell ⟨g,0,none⟩ x).setCell ⟨g,1,none⟩ y))
  (h:∀W1,Kp w (bs.set n (g,#[x,y],t)) vs os W1→wpAnyLast P md ops Q S ds fuel l' a W1):wpAnyLast P md ops Q S ds (fuel+1) l a W:=by
 have c:=K.cell2 n hn
 refine last_ l' hi hN hc hd fun K' hK=>skip_ hw hN (hrun c.1 c.2 (K.fz n hn 0) (K.fz n hn 1)) ?_
 exact hK.out _ _ (h _ (K.put2 n x y hn))
theorem kone2 {i:Nat} {oi:Oper} {fuel:Nat} {l:Array Bool} (l':Array Bool) (n:Nat) (x y:Value) (K:Kp w bs vs os W) (hn:bs[n]? = some (g,#[a0,b0],t)) (hi:ops[i]? = some oi) (hN:oi.dst=none) (hc:readyB md ops l l' i=true) (hd:i∉ds) (hw:Region.wanted oi (yielded ops a.tmps)=true)
  (hrun:W.cell? ⟨g,0,none⟩=some a0→W.cell? ⟨g,1,none⟩=some b0→W.frozen? ⟨g,0,none⟩=false→W.frozen? ⟨g,1,none⟩=false→(execOp a.eval oi).run P W=.ok .skip ((W.setCell ⟨g,0,none⟩ x).setCell ⟨g,1,none⟩ y))
  (hS:∀W1,Kp w (bs.set n (g,#[x,y],t)) vs os W1→S W1) (h:∀W1,Kp w (bs.set n (g,#[x,y],t)) vs os W1→wpAnyLast P md ops Q S ds fuel l' a W1):wpAnyLast P md ops Q S ds (fuel+1) l a W:=by
 have c:=K.cell2 n hn
 refine one_ l' hi hN hc hd fun K' hK=>skip_ hw hN (hrun c.1 c.2 (K.fz n hn 0) (K.fz n hn 1)) ?_
 exact hK.out _ _ (hS _ (K.put2 n x y hn)) fun _=>h _ (K.put2 n x y hn)
end
section
variable {P:Program} {ops:Array Oper} {Q:Exit→Act→World→Prop} {rest:List Oper} {o:Oper} {a:Act} {w W:World} {bs:List Bx} {vs os:List KV} {g t:Nat} {a0 b0:Value} {md:Region.Mode} {S:World→Prop} {ds:List Nat}
theorem ks2 (n:Nat) (x y:Value) (K:Kp w bs vs os W) (hn:bs[n]? = some (g,#[a0,b0],t)) (h:∀W1,Kp w (bs.set n (g,#[x,y],t)) vs os W1→wpList P ops Q rest a W1) (hd:o.dst=none:=by rfl) (hgd:o.guard=none:=by rfl)
 (hrun:W.cell? ⟨g,0,none⟩=some a0→W.cell? ⟨g,1,none⟩=some b0→W.frozen? ⟨g,0,none⟩=false→W.frozen? ⟨g,1,none⟩=false→(execOp a.eval o).run P W=.ok .skip ((W.setCell ⟨g,0,none⟩ x).setCell ⟨g,1,none⟩ y):=by intro c0 c1 f0 f1;first|(go_simp;done)|(go_simp;rfl)):wpList P ops Q (o::rest) a W:=kst2 n x y K hn hrun h hd hgd
theorem ko2 {i:Nat} {oi:Oper} {fuel:Nat} {l:Array Bool} (l':Array Bool) (n:Nat) (x y:Value) (K:Kp w bs vs os W) (hn:bs[n]? = some (g,#[a0,b0],t)) (hi:ops[i]? = some oi) (hN:oi.dst=none) (hc:readyB md ops l l' i=true) (hd:i∉ds) (hw:Region.wanted oi (yielded ops a.tmps)=true)
 (hS:∀W1,Kp w (bs.set n (g,#[x,y],t)) vs os W1→S W1) (h:∀W1,Kp w (bs.set n (g,#[x,y],t)) vs os W1→wpAnyLast P md ops Q S ds fuel l' a W1) (hrun:W.cell? ⟨g,0,none⟩=some a0→W.cell? ⟨g,1,none⟩=some b0→W.frozen? ⟨g,0,none⟩=false→W.frozen? ⟨g,1,none⟩=false→(execOp a.eval oi).run P W=.ok .skip ((W.setCell ⟨g,0,none⟩ x).setCell ⟨g,1,none⟩ y):=by intro c0 c1 f0 f1;first|(go_simp;done)|(go_simp;rfl)):wpAnyLast P md ops Q S ds (fuel+1) l a W:=kone2 l' n x y K hn hi hN hc hd hw hrun hS h
theorem kbk {rest:List Oper} {o:Oper} (N:Tmp) (cs:Array Value) (t:TypeId) (K:Kp w bs vs os W) (h:∀g W1,Kp w (bs++[(g,cs,t)]) vs os W1→wpList P ops Q rest (a.put o.dst (.pointer (some ⟨g,0,none⟩))) W1)
 (hd:o.dst=some N:=by rfl) (hgd:o.guard=none:=by rfl) (hrun:(execOp a.eval o).run P W=.ok (.value (.pointer (some ⟨W.heap.size,0,none⟩))) (W.alloc (.cells cs t (0,0))):=by first|(go_simp;done)|(go_simp;rfl)):wpList P ops Q (o::rest) a W:=
 kbe N cs t (fun g hg w1 hx hb=>h g w1 (K.box hg hx hb)) hd hgd hrun
end
theorem kpstart {P:Program} {ops:Array Oper} {Q:Exit→Act→World→Prop} {S:World→Prop} {ds:List Nat} {id n:Nat} {a:Act} {w W W0:World} {bs:List Bx} {vs os:List KV} [u:UpO W0 W] (l:Array Bool) (hm:P.follows .mixedOrders=true) (hn:ops.size=n) (hl:Array.replicate n false=l)
  (K:Kp w bs vs os W0) (hS:∀W',Kp w bs vs os W'→S W') (h:∀W',Kp w bs vs os W'→S W'→wpAnyLast P .any ops Q S ds n l a W'):(Code.region id ops true).wp P Q a W:=
 start_ l hm hn hl (hS _ (K.up (below_drew u.below))) fun h'=>h _ (K.up (below_drew u.below)) h'
theorem klv:(∀l:List KV,[]++l=l)∧(∀(x:KV) (l m:List KV),x::l++m=x::(l++m)):=
 ⟨fun _=>rfl,fun _ _ _=>rfl⟩
end Go.Proofs.YtncomlmhagaajaaGreatDoor.Mine
namespace Go.Proofs.YtncomlmhagaajaaGreatDoor.PRp
open Go.RowKit Go.Proofs.YtncomlmhagaajaaGreatDoorW.PrintWords Go.Proofs.YtncomlmhagaajaaGreatDoorW.PrintLast Go.Proofs.YtncomlmhagaajaaGreatDoorW.PrintMore
open Go.Proofs.YtncomlmhagaajaaGreatDoor.Mine
attribute [local go_sem] max2_int min2_int max_two min_two max_three min_three max_four min_four
def whole_of.f (k:Nat) (a0_0:Bool) (l0_1:List Int):Option (List Int×Bool):=(whole_trimmed.f k l0_1).bind fun t123=>(if a0_0=true then((whole_amount_null.f t123).bind fun t126=>(some (t123,!t126))) else(some (t123,false)))
theorem whole_of.calls (k:Nat) (ad:Bool) (P0_1_:Nat→Prop) (ab:Option Addr) (ac:Nat) (aa:List Int) (r1:List Int) (r2:Bool) (w:World) (ae:Kd.V (Kd.int .u64) 91 w w.heap.size (fun k_=>P0_1_ k_) (.slice ab aa.length ac) aa) (h:whole_of.f k ad aa=some (r1,r2)) :
  Calls Tryz.prog 46 #[.agg #[.bool ad,.slice ab aa.length ac]] w fun e w'=>∃v0_:Value,e=.returned (.agg #[v0_,.bool r2])∧Kd.V (Kd.int .u64) 91 w' w.heap.size (fun k_=>(P0_1_ k_∨w.heap.size≤k_)) v0_ r1∧Below w.heap.size w w':=by
 have af:=Tryz.underlying25
 have ag:=Tryz.underlying86
 have K:=Kp.refl w
 replace K:=K.parV (Kd.V_mono (ok':=fun k=>P0_1_ k) ae (fun _ h=>h))
 clear ae
 try simp only[klv]at K
 rw[whole_of.f]at h
 replace h:=bindA h
 obtain⟨x5,A6,h⟩:=h
 by_cases c_0:ad=true
 ·subst c_0
  rw[if_pos rfl]at h
  replace h:=bindA h
  obtain⟨z13,A14,h⟩:=h
  simp only[Option.some.injEq,Prod.mk.injEq]at h
  obtain⟨rfl,rfl⟩:=h
  go_enter Tryz.func46,Tryz.ntmps46
  go_wp2_with (first|(refine gd 1 rfl ?_;refine kbk 1 #[.bool true,.slice ab aa.length ac] 25 K.u ?_;clear K;intro g1 W2 K)|(refine gd 2 rfl ?_;refine kbk 2 #[.slice none 0 0,.bool false] 86 K.u ?_;clear K;intro g3 W4 K;obtain⟨ua0,ub0⟩:=K.cell2 0 rfl)|(refine gd 6 rfl ?_;clear ua0 ub0;refine kgl (some 6) rfl rfl Tryz.func79 #[.slice ab aa.length ac] rfl ?_;refine(whole_trimmed.calls _ _ _ _ aa x5 _ (K.V 0 rfl) A6.out).mono ?_;rintro e W9 ⟨v7,rfl,ho8,hb⟩;refine⟨_,rfl,?_⟩;replace K:=K.u.add (fun k=>P0_1_ k) hb ho8 (fun _ h=>h);clear hb ho8;obtain⟨P10,c11,e12⟩:=K.slice 1 rfl;subst e12;obtain⟨ua0,ub0⟩:=K.cell2 0 rfl)|(refine gd 12 rfl ?_;clear ua0 ub0;refine gate_guard F1 ?_;refine kgl (some 12) rfl rfl Tryz.func86 #[.slice P10 x5.length c11] rfl ?_;refine(whole_amount_null.calls _ _ x5 z13 _ (K.C 1 rfl) (K.le 1 rfl) A14.out).mono ?_;rintro e W15 ⟨rfl,hb⟩;refine⟨_,rfl,?_⟩;replace K:=K.u.up hb.below;clear hb)|(refine gs 86 2 15 rfl ?_;refine ks2 1 (.slice P10 x5.length c11) (.bool !z13) K.u rfl ?_;clear K;intro W16 K;simp only[kls,klv]at K))
  refine bodyPost_ret (results_single rfl (.cell g3 86 #[.slice P10 x5.length c11,.bool !z13] (0,0) _ rfl (K.u.heap 1 rfl) Tryz.underlying86 rfl X0 .nil)) rfl ?_
  exact⟨_,rfl,K.u.hand 1 rfl (fun k_ h=>h.elim (fun h=>.inl h) .inr),K.u.below⟩
 replace c_0:=Bool.eq_false_iff.mpr c_0
 subst c_0
 rw[if_neg J0]at h
 simp only[Option.some.injEq,Prod.mk.injEq]at h
 obtain⟨rfl,rfl⟩:=h
 go_enter Tryz.func46,Tryz.ntmps46
 go_wp2_with (first|(refine gd 1 rfl ?_;refine kbk 1 #[.bool false,.slice ab aa.length ac] 25 K.u ?_;clear K;intro g1 W2 K)|(refine gd 2 rfl ?_;refine kbk 2 #[.slice none 0 0,.bool false] 86 K.u ?_;clear K;intro g3 W4 K;obtain⟨ua0,ub0⟩:=K.cell2 0 rfl)|(refine gd 6 rfl ?_;clear ua0 ub0;refine kgl (some 6) rfl rfl Tryz.func79 #[.slice ab aa.length ac] rfl ?_;refine(whole_trimmed.calls _ _ _ _ aa x5 _ (K.V 0 rfl) A6.out).mono ?_;rintro e W9 ⟨v7,rfl,ho8,hb⟩;refine⟨_,rfl,?_⟩;replace K:=K.u.add (fun k=>P0_1_ k) hb ho8 (fun _ h=>h);clear hb ho8;obtain⟨P10,c11,e12⟩:=K.slice 1 rfl;subst e12;obtain⟨ua0,ub0⟩:=K.cell2 0 rfl)|(refine gs 86 2 15 rfl ?_;clear ua0 ub0;refine ks2 1 (.slice P10 x5.length c11) (.bool false) K.u rfl ?_;clear K;intro W13 K;simp only[kls,klv]at K))
 refine bodyPost_ret (results_single rfl (.cell g3 86 #[.slice P10 x5.length c11,.bool false] (0,0) _ rfl (K.u.heap 1 rfl) Tryz.underlying86 rfl X0 .nil)) rfl ?_
 exact⟨_,rfl,K.u.hand 1 rfl (fun k_ h=>h.elim (fun h=>.inl h) .inr),K.u.below⟩
def whole_amount_cmp.l0:Nat→List Int→List Int→Int→Option (Int)
 | 0,_,_,_=>none
 | k+1,x0,x1,x5=>if x5≥0 then(if 0≤x5 then(if x5<(x0.length:Int) then(if x5<(x1.length:Int) then(if(rd x0 x5)=(rd x1 x5) then(whole_amount_cmp.l0 k x0 x1 (wrap64 (x5-1))) else(if(rd x0 x5)<(rd x1 x5) then(some (-1)) else(some 1))) else(none)) else(none)) else(none)) else(some 0)
def whole_amount_cmp.f (k:Nat) (l0:List Int) (l1:List Int):Option (Int):=if(l0.length:Int)=(l1.length:Int) then(whole_amount_cmp.l0 k l0 l1 (wrap64 ((l0.length:Int)-1))) else(if(l0.length:Int)<(l1.length:Int) then(some (-1)) else(some 1))
theorem whole_amount_cmp.calls (k:Nat) (A0:Option Addr) (c0:Nat) (l0:List Int) (A1:Option Addr) (c1:Nat) (l1:List Int) (r:Int) (w:World) (hr0:Kd.C (Kd.int .u64) w A0 l0.length l0) (hc0:l0.length≤c0) (hr1:Kd.C (Kd.int .u64) w A1 l1.length l1) (hc1:l1.length≤c1) (h:whole_amount_cmp.f k l0 l1=some r) :
  Calls Tryz.prog 106 #[.slice A0 l0.length c0,.slice A1 l1.length c1] w fun e w'=>e=.returned (.int .i64 r)∧Drawn0 w w':=by
 have HR0:=Aside0.mk hr0
 have HC0:=Aside0.mk hc0
 clear hr0 hc0
 have HR1:=Aside0.mk hr1
 have HC1:=Aside0.mk hc1
 clear hr1 hc1
 have H:(if(l0.length:Int)=(l1.length:Int) then(whole_amount_cmp.l0 k l0 l1 (wrap64 ((l0.length:Int)-1))) else(if(l0.length:Int)<(l1.length:Int) then(some (-1)) else(some 1)))=some r:=h
 clear h
 by_cases c3:(l0.length:Int)=(l1.length:Int)
 ·rw [if_pos c3]at H
  have ax:((l0.length:Int)==(l1.length:Int))=true:=beq_iff_eq.mpr c3
  have ay:((l0.length:Int) != (l1.length:Int))=false:=bne_eq_false_iff_eq.mpr c3
  have az:(l0.length==l1.length)=true:=by first|simpa using c3|(simp at c3 ⊢;omega)
  clear c3
  have H':=Aside0.mk H
  clear H
  go_enter Tryz.func106,Tryz.ntmps106
  go_wp2
  repeat (go_quiet (fail);try go_wp2)
  go_loopg [5] k (fun kq v5 w'=>∃(aa:Int),v5=.int .i64 aa∧Aside0 (whole_amount_cmp.l0 kq l0 l1 aa=some r)∧Aside0 (kq≤k)∧Drawn0 w w')
  case atStart=>exact⟨(wrap64 ((l0.length:Int)-1)),Y0,H',⟨Nat.le_refl _⟩,Y1⟩
  case round=>
   clear H'
   try clear c1
   try clear p2
   try clear c3
   try clear ax
   try clear ay
   try clear az
   obtain⟨aa,rfl,HA,HK1,⟨m1,rfl⟩⟩:=hrel
   cases gk with
   | zero=>exact absurd HA.out (by simp[whole_amount_cmp.l0])
   | succ k1=>
    have H:=HA.out
    clear HA
    simp only[whole_amount_cmp.l0]at H
    by_cases c4:aa≥0
    ·rw [if_pos c4]at H
     have aC:decide (0≤aa)=true:=decide_eq_true c4
     clear c4
     by_cases c5:0≤aa
     ·rw [if_pos c5]at H
      have aG:decide (0≤aa)=true:=decide_eq_true c5
      clear c5
      by_cases c6:aa<(l0.length:Int)
      ·rw[if_pos c6]at H
       have aH:decide (aa<(l0.length:Int))=true:=decide_eq_true c6
       clear c6
       by_cases c7:aa<(l1.length:Int)
       ·rw[if_pos c7]at H
        have aI:decide (aa<(l1.length:Int))=true:=decide_eq_true c7
        clear c7
        by_cases c8:(rd l0 aa)=(rd l1 aa)
        ·rw[if_pos c8]at H
         have aD:((rd l0 aa)==(rd l1 aa))=true:=beq_iff_eq.mpr c8
         have aE:((rd l0 aa) != (rd l1 aa))=false:=bne_eq_false_iff_eq.mpr c8
         clear c8
         have H':=Aside0.mk H
         clear H
         have ab:0≤(aa:Int):=of_decide_eq_true ‹_›
         have ac:aa<(l0.length:Int):=of_decide_eq_true ‹_›
         obtain⟨aj,al,an⟩:=Kd.at_int HR0.out aa ab ac
         cases al
         replace ab:=eq_true ab
         replace ac:=eq_true ac
         have ad:0≤(aa:Int):=of_decide_eq_true ‹_›
         have ae:aa<(l1.length:Int):=of_decide_eq_true ‹_›
         obtain⟨ak,am,ao⟩:=Kd.at_int HR1.out aa ad ae
         cases am
         replace ad:=eq_true ad
         replace ae:=eq_true ae
         go_wp2
         repeat (go_quiet (fail);try go_wp2)
         go_roundg k1
         case measure=>have:=HK1.out;omega
         case rel=>exact⟨(wrap64 (aa-1)),Y0,H',⟨Y3⟩,Y1⟩
        rw[if_neg c8]at H
        have aD:((rd l0 aa)==(rd l1 aa))=false:=beq_eq_false_iff_ne.mpr c8
        have aE:((rd l0 aa) != (rd l1 aa))=true:=bne_iff_ne.mpr c8
        by_cases c9:(rd l0 aa)<(rd l1 aa)
        ·rw[if_pos c9]at H
         have aF:decide ((rd l0 aa)<(rd l1 aa))=true:=decide_eq_true c9
         clear c9
         obtain rfl:=Option.some.inj H
         have ab:0≤(aa:Int):=of_decide_eq_true ‹_›
         have ac:aa<(l0.length:Int):=of_decide_eq_true ‹_›
         obtain⟨aj,al,an⟩:=Kd.at_int HR0.out aa ab ac
         cases al
         replace ab:=eq_true ab
         replace ac:=eq_true ac
         have ad:0≤(aa:Int):=of_decide_eq_true ‹_›
         have ae:aa<(l1.length:Int):=of_decide_eq_true ‹_›
         obtain⟨ak,am,ao⟩:=Kd.at_int HR1.out aa ad ae
         cases am
         replace ad:=eq_true ad
         replace ae:=eq_true ae
         have af:0≤(aa:Int):=of_decide_eq_true ‹_›
         have ag:aa<(l0.length:Int):=of_decide_eq_true ‹_›
         obtain⟨ap,ar,av⟩:=Kd.at_int HR0.out aa af ag
         obtain rfl:aj=ap:=(by injection ar)
         replace af:=eq_true af
         replace ag:=eq_true ag
         have ah:0≤(aa:Int):=of_decide_eq_true ‹_›
         have ai:aa<(l1.length:Int):=of_decide_eq_true ‹_›
         obtain⟨aq,au,aw⟩:=Kd.at_int HR1.out aa ah ai
         obtain rfl:ak=aq:=(by injection au)
         replace ah:=eq_true ah
         replace ai:=eq_true ai
         go_wp2
         repeat (go_quiet (fail);try go_wp2)
         go_ret
         exact⟨Y0,Y1⟩
        rw[if_neg c9]at H
        have aF:decide ((rd l0 aa)<(rd l1 aa))=false:=decide_eq_false c9
        clear c9
        obtain rfl:=Option.some.inj H
        have ab:0≤(aa:Int):=of_decide_eq_true ‹_›
        have ac:aa<(l0.length:Int):=of_decide_eq_true ‹_›
        obtain⟨aj,al,an⟩:=Kd.at_int HR0.out aa ab ac
        cases al
        replace ab:=eq_true ab
        replace ac:=eq_true ac
        have ad:0≤(aa:Int):=of_decide_eq_true ‹_›
        have ae:aa<(l1.length:Int):=of_decide_eq_true ‹_›
        obtain⟨ak,am,ao⟩:=Kd.at_int HR1.out aa ad ae
        cases am
        replace ad:=eq_true ad
        replace ae:=eq_true ae
        have af:0≤(aa:Int):=of_decide_eq_true ‹_›
        have ag:aa<(l0.length:Int):=of_decide_eq_true ‹_›
        obtain⟨ap,ar,av⟩:=Kd.at_int HR0.out aa af ag
        obtain rfl:aj=ap:=(by injection ar)
        replace af:=eq_true af
        replace ag:=eq_true ag
        have ah:0≤(aa:Int):=of_decide_eq_true ‹_›
        have ai:aa<(l1.length:Int):=of_decide_eq_true ‹_›
        obtain⟨aq,au,aw⟩:=Kd.at_int HR1.out aa ah ai
        obtain rfl:ak=aq:=(by injection au)
        replace ah:=eq_true ah
        replace ai:=eq_true ai
        go_wp2
        repeat (go_quiet (fail);try go_wp2)
        go_ret
        exact⟨Y0,Y1⟩
       rw[if_neg c7]at H
       exact absurd H Z1
      rw[if_neg c6]at H
      exact absurd H Z1
     rw[if_neg c5]at H
     exact absurd H Z1
    rw[if_neg c4]at H
    have aC:decide (0≤aa)=false:=decide_eq_false c4
    clear c4
    obtain rfl:=Option.some.inj H
    go_wp2
    repeat (go_quiet (fail);try go_wp2)
    go_ret
    exact⟨Y0,Y1⟩
 rw[if_neg c3]at H
 have ax:((l0.length:Int)==(l1.length:Int))=false:=beq_eq_false_iff_ne.mpr c3
 have ay:((l0.length:Int) != (l1.length:Int))=true:=bne_iff_ne.mpr c3
 have az:(l0.length==l1.length)=false:=by first|simpa using c3|(simp at c3 ⊢;omega)
 by_cases c10:(l0.length:Int)<(l1.length:Int)
 ·rw[if_pos c10]at H
  have aA:decide ((l0.length:Int)<(l1.length:Int))=true:=decide_eq_true c10
  have aB:decide (l0.length<l1.length)=true:=decide_eq_true (Int.ofNat_lt.mp c10)
  clear c10
  obtain rfl:=Option.some.inj H
  go_enter Tryz.func106,Tryz.ntmps106
  go_wp2
  repeat (go_quiet (fail);try go_wp2)
  go_ret
  exact⟨Y0,Y1⟩
 rw[if_neg c10]at H
 have aA:decide ((l0.length:Int)<(l1.length:Int))=false:=decide_eq_false c10
 have aB:decide (l0.length<l1.length)=false:=decide_eq_false (fun h=>c10 (Int.ofNat_lt.mpr h))
 clear c10
 obtain rfl:=Option.some.inj H
 go_enter Tryz.func106,Tryz.ntmps106
 go_wp2
 repeat (go_quiet (fail);try go_wp2)
 go_ret
 exact⟨Y0,Y1⟩
mutual
def whole_number_cmp.j0:Nat→Bool→List Int→Bool→List Int→Bool→Option (Int)
 | 0,_,_,_,_,_=>none
 | k+1,x5,x132000,x132001,x133000,x133001=>if x5=true then(some (-1)) else(if x132001=true then(whole_number_cmp.j1 k false x132000 x132001 x133000 x133001) else(whole_number_cmp.j1 k x133001 x132000 x132001 x133000 x133001))
def whole_number_cmp.j1:Nat→Bool→List Int→Bool→List Int→Bool→Option (Int)
 | 0,_,_,_,_,_=>none
 | k+1,x13,x132000,x132001,x133000,x133001=>if x13=true then(some 1) else(if x132001=true then((whole_amount_cmp.f k x133000 x132000).bind fun t133=>(some t133)) else((whole_amount_cmp.f k x132000 x133000).bind fun t134=>(some t134)))
end
def whole_number_cmp.f (k:Nat) (l0_0:List Int) (a0_1:Bool) (l1_0:List Int) (a1_1:Bool):Option (Int):=if a0_1=true then(whole_number_cmp.j0 k (!a1_1) l0_0 a0_1 l1_0 a1_1) else(whole_number_cmp.j0 k false l0_0 a0_1 l1_0 a1_1)
theorem whole_number_cmp.calls (k:Nat) (ac:Option Addr) (ad:Nat) (aa:List Int) (ah:Bool) (ae:Option Addr) (af:Nat) (ab:List Int) (ag:Bool) (r:Int) (w:World) (ai:Kd.C (Kd.int .u64) w ac aa.length aa) (aj:aa.length≤ad) (ak:Kd.C (Kd.int .u64) w ae ab.length ab) (al:ab.length≤af) (h:whole_number_cmp.f k aa ah ab ag=some r) :
  Calls Tryz.prog 47 #[.agg #[.slice ac aa.length ad,.bool ah],.agg #[.slice ae ab.length af,.bool ag]] w fun e w'=>e=.returned (.int .i64 r)∧Below w.heap.size w w':=by
 have am:=Tryz.underlying86
 have K:=Kp.refl w
 replace K:=K.parV (Kd.V_mono (ok':=fun _=>True) (Kd.V_mk (e:=91) (base:=0) aj (Kd.C_F (Kd.heap_int .u64) ai)) (fun _ h=>trivial))
 clear ai aj
 replace K:=K.parV (Kd.V_mono (ok':=fun _=>True) (Kd.V_mk (e:=91) (base:=0) al (Kd.C_F (Kd.heap_int .u64) ak)) (fun _ h=>trivial))
 clear ak al
 try simp only[klv]at K
 rw[whole_number_cmp.f]at h
 by_cases c_0:ah=true
 ·subst c_0
  rw[if_pos rfl]at h
  obtain⟨k,rfl⟩:∃j,k=j+1:=by
   cases k with
   | zero=>simp[whole_number_cmp.j0]at h
   | succ k=>exact⟨k,rfl⟩
  rw[whole_number_cmp.j0]at h
  by_cases c_1:(!ag)=true
  ·rw[if_pos c_1]at h
   simp only[Option.some.injEq]at h
   subst h
   go_enter Tryz.func47,Tryz.ntmps47
   go_wp2_with (first|(refine gd 2 rfl ?_;refine kbk 2 #[.slice ac aa.length ad,.bool true] 86 K.u ?_;clear K;intro g1 W2 K)|(refine gd 3 rfl ?_;refine kbk 3 #[.slice ae ab.length af,.bool ag] 86 K.u ?_;clear K;intro g3 W4 K;obtain⟨ua0,ub0⟩:=K.cell2 0 rfl;obtain⟨ua1,ub1⟩:=K.cell2 1 rfl))
   go_ret
   exact⟨rfl,K.u.below⟩
  rw[if_neg c_1]at h
  replace c_1:=Bool.eq_false_iff.mpr c_1
  rw[if_pos rfl]at h
  obtain⟨k,rfl⟩:∃j,k=j+1:=by
   cases k with
   | zero=>simp[whole_number_cmp.j1]at h
   | succ k=>exact⟨k,rfl⟩
  rw[whole_number_cmp.j1]at h
  rw[if_neg J0]at h
  rw[if_pos rfl]at h
  replace h:=bindA h
  obtain⟨n5,A6,h⟩:=h
  simp only[Option.some.injEq]at h
  subst h
  go_enter Tryz.func47,Tryz.ntmps47
  go_wp2_with (first|(refine gd 2 rfl ?_;refine kbk 2 #[.slice ac aa.length ad,.bool true] 86 K.u ?_;clear K;intro g1 W2 K)|(refine gd 3 rfl ?_;refine kbk 3 #[.slice ae ab.length af,.bool ag] 86 K.u ?_;clear K;intro g3 W4 K;obtain⟨ua0,ub0⟩:=K.cell2 0 rfl;obtain⟨ua1,ub1⟩:=K.cell2 1 rfl)|(refine gd 28 rfl ?_;clear ua0 ub0 ua1 ub1;refine kgl (some 28) rfl rfl Tryz.func106 #[.slice ae ab.length af,.slice ac aa.length ad] rfl ?_;refine(whole_amount_cmp.calls _ _ _ ab _ _ aa n5 _ (K.C 1 rfl) (K.le 1 rfl) (K.C 0 rfl) (K.le 0 rfl) A6.out).mono ?_;rintro e W7 ⟨rfl,hb⟩;refine⟨_,rfl,?_⟩;replace K:=K.u.up hb.below;clear hb))
  go_ret
  exact⟨rfl,K.u.below⟩
 replace c_0:=Bool.eq_false_iff.mpr c_0
 subst c_0
 rw[if_neg J0]at h
 obtain⟨k,rfl⟩:∃j,k=j+1:=by
  cases k with
  | zero=>simp[whole_number_cmp.j0]at h
  | succ k=>exact⟨k,rfl⟩
 rw[whole_number_cmp.j0]at h
 rw[if_neg J0]at h
 rw[if_neg J0]at h
 obtain⟨k,rfl⟩:∃j,k=j+1:=by
  cases k with
  | zero=>simp[whole_number_cmp.j1]at h
  | succ k=>exact⟨k,rfl⟩
 rw[whole_number_cmp.j1]at h
 by_cases c_2:ag=true
 ·subst c_2
  rw[if_pos rfl]at h
  simp only[Option.some.injEq]at h
  subst h
  go_enter Tryz.func47,Tryz.ntmps47
  go_wp2_with (first|(refine gd 2 rfl ?_;refine kbk 2 #[.slice ac aa.length ad,.bool false] 86 K.u ?_;clear K;intro g1 W2 K)|(refine gd 3 rfl ?_;refine kbk 3 #[.slice ae ab.length af,.bool true] 86 K.u ?_;clear K;intro g3 W4 K;obtain⟨ua0,ub0⟩:=K.cell2 0 rfl;obtain⟨ua1,ub1⟩:=K.cell2 1 rfl))
  go_ret
  exact⟨rfl,K.u.below⟩
 replace c_2:=Bool.eq_false_iff.mpr c_2
 subst c_2
 rw[if_neg J0]at h
 rw[if_neg J0]at h
 replace h:=bindA h
 obtain⟨n5,A6,h⟩:=h
 simp only[Option.some.injEq]at h
 subst h
 go_enter Tryz.func47,Tryz.ntmps47
 go_wp2_with (first|(refine gd 2 rfl ?_;refine kbk 2 #[.slice ac aa.length ad,.bool false] 86 K.u ?_;clear K;intro g1 W2 K)|(refine gd 3 rfl ?_;refine kbk 3 #[.slice ae ab.length af,.bool false] 86 K.u ?_;clear K;intro g3 W4 K;obtain⟨ua0,ub0⟩:=K.cell2 0 rfl;obtain⟨ua1,ub1⟩:=K.cell2 1 rfl)|(refine gd 33 rfl ?_;clear ua0 ub0 ua1 ub1;refine kgl (some 33) rfl rfl Tryz.func106 #[.slice ac aa.length ad,.slice ae ab.length af] rfl ?_;refine(whole_amount_cmp.calls _ _ _ aa _ _ ab n5 _ (K.C 0 rfl) (K.le 0 rfl) (K.C 1 rfl) (K.le 1 rfl) A6.out).mono ?_;rintro e W7 ⟨rfl,hb⟩;refine⟨_,rfl,?_⟩;replace K:=K.u.up hb.below;clear hb))
 go_ret
 exact⟨rfl,K.u.below⟩
def whole_Cmp.f (k:Nat) (a0_0:Bool) (l0_1:List Int) (a1_0:Bool) (l1_1:List Int):Option (Int):=(whole_of.f k a0_0 l0_1).bind fun bt137=>((whole_of.f k a1_0 l1_1).bind fun bt141=>((whole_number_cmp.f k bt137.1 bt137.2 bt141.1 bt141.2).bind fun t145=>(some t145)))
theorem whole_Cmp.calls (k:Nat) (ac:Bool) (ae:Option Addr) (af:Nat) (aa:List Int) (ad:Bool) (ag:Option Addr) (ah:Nat) (ab:List Int) (r:Int) (w:World) (ai:Kd.C (Kd.int .u64) w ae aa.length aa) (aj:aa.length≤af) (ak:Kd.C (Kd.int .u64) w ag ab.length ab) (al:ab.length≤ah) (h:whole_Cmp.f k ac aa ad ab=some r) :
  Calls Tryz.prog 15 #[.agg #[.bool ac,.slice ae aa.length af],.agg #[.bool ad,.slice ag ab.length ah]] w fun e w'=>e=.returned (.int .i64 r)∧Below w.heap.size w w':=by
 have ao:=Tryz.underlying25
 have K:=Kp.refl w
 replace K:=K.parV (Kd.V_mono (ok':=fun _=>True) (Kd.V_mk (e:=91) (base:=0) aj (Kd.C_F (Kd.heap_int .u64) ai)) (fun _ h=>trivial))
 clear ai aj
 replace K:=K.parV (Kd.V_mono (ok':=fun _=>True) (Kd.V_mk (e:=91) (base:=0) al (Kd.C_F (Kd.heap_int .u64) ak)) (fun _ h=>trivial))
 clear ak al
 try simp only[klv]at K
 rw[whole_Cmp.f]at h
 go_enter Tryz.func15,Tryz.ntmps15
 go_wp2_with (first|(refine gd 2 rfl ?_;refine kbk 2 #[.bool ac,.slice ae aa.length af] 25 K.u ?_;clear K;intro g1 W2 K)|(refine gd 3 rfl ?_;refine kbk 3 #[.bool ad,.slice ag ab.length ah] 25 K.u ?_;clear K;intro g3 W4 K))
 replace h:=bindA h
 obtain⟨⟨x5,z6⟩,A7,h⟩:=h
 dsimp only at h
 replace h:=bindA h
 obtain⟨⟨x8,z9⟩,A10,h⟩:=h
 dsimp only at h
 replace h:=bindA h
 obtain⟨n11,A12,h⟩:=h
 obtain⟨Bs,Vs,Os,hBs,hVs,hOs,K⟩:=K.abs
 have HS:Aside0 (∀l m o W,Kp w (Bs++l) m o W→W.cell? ⟨g1,0,none⟩=some (.bool ac)∧W.cell? ⟨g1,1,none⟩=some (.slice ae aa.length af)∧W.cell? ⟨g3,0,none⟩=some (.bool ad)∧W.cell? ⟨g3,1,none⟩=some (.slice ag ab.length ah)):=⟨fun l m o W K=>by rw[hBs.out]at K;exact⟨K.cell 0 rfl 0 rfl,K.cell 0 rfl 1 rfl,K.cell 1 rfl 0 rfl,K.cell 1 rfl 1 rfl⟩⟩
 refine kpstart (n:=6) (ds:=[]) (S:=fun W=>W.cell? ⟨g1,0,none⟩=some (.bool ac)∧W.cell? ⟨g1,1,none⟩=some (.slice ae aa.length af)∧W.cell? ⟨g3,0,none⟩=some (.bool ad)∧W.cell? ⟨g3,1,none⟩=some (.slice ag ab.length ah)) (bm_ 6 0) X0 rfl rfl K (HS.out [] _ _) (fun W15 K hH=>?_)
 refine tk_ 0 5 ?_ (bm_ 6 1) rfl rfl X0 (fun _ _ _ h=>h) F1 ?_ hH ?_ ?_ ?_
 rotate_left
 ·rintro w' ⟨s0,s1,s2,s3⟩
  go_simp
  with_reducible rfl
 rotate_left
 ·simp only[Act.put,kss,i64_w,i32_w]
  rfl
 refine tk_ 2 7 ?_ (bm_ 6 5) rfl rfl X0 (fun _ _ _ h=>h) F1 ?_ hH ?_ ?_ ?_
 rotate_left
 ·rintro w' ⟨s0,s1,s2,s3⟩
  go_simp
  with_reducible rfl
 rotate_left
 ·simp only[Act.put,kss,i64_w,i32_w]
  rfl
 refine one_ (i:=1) (N:=some 6) (bm_ 6 7) rfl rfl X0 J0 (fun Kc hK=>?_)
 refine kgo Tryz.func46 #[.agg #[.bool ac,.slice ae aa.length af]] F1 rfl rfl ?_
 refine(whole_of.calls _ ac _ _ _ aa x5 z6 _ (K.V 0 (hv hVs rfl)) A7.out).mono ?_
 rintro e W' ⟨v13,rfl,am,hb⟩
 replace K:=K.addI 0 (fun _=>True) hb am (fun _ h=>h.t)
 clear hb am
 refine⟨_,rfl,hK.out _ _ (HS.out _ _ _ _ K) fun hH=>?_⟩
 clear hK Kc
 refine norm_ (a':=?_) ?_ ?_
 rotate_left
 ·show Act.put _ (some 6) _=_
  simp only[Act.put,kss,i64_w,i32_w]
  rfl
 refine one_ (i:=3) (N:=some 8) (bm_ 6 15) rfl rfl X0 J0 (fun Kc hK=>?_)
 refine kgo Tryz.func46 #[.agg #[.bool ad,.slice ag ab.length ah]] F1 rfl rfl ?_
 refine(whole_of.calls _ ad _ _ _ ab x8 z9 _ (K.V 1 (hv hVs rfl)) A10.out).mono ?_
 rintro e W' ⟨v14,rfl,an,hb⟩
 replace K:=K.addI 1 (fun _=>True) hb an (fun _ h=>h.t)
 clear hb an
 refine⟨_,rfl,hK.out _ _ (HS.out _ _ _ _ K) fun hH=>?_⟩
 clear hK Kc
 refine norm_ (a':=?_) ?_ ?_
 rotate_left
 ·show Act.put _ (some 8) _=_
  simp only[Act.put,kss,i64_w,i32_w]
  rfl
 refine one_ (i:=4) (N:=some 9) (bm_ 6 31) rfl rfl X0 J0 (fun Kc hK=>?_)
 obtain⟨P18,c19,e20⟩:=K.slice 2 (hv hVs rfl)
 subst e20
 obtain⟨P21,c22,e23⟩:=K.slice 3 (hv hVs rfl)
 subst e23
 refine kgo Tryz.func47 #[.agg #[.slice P18 x5.length c19,.bool z6],.agg #[.slice P21 x8.length c22,.bool z9]] F1 rfl rfl ?_
 refine(whole_number_cmp.calls _ _ _ x5 z6 _ _ x8 z9 n11 _ (K.C 2 (hv hVs rfl)) (K.le 2 (hv hVs rfl)) (K.C 3 (hv hVs rfl)) (K.le 3 (hv hVs rfl)) A12.out).mono ?_
 rintro e W' ⟨rfl,hb⟩
 replace K:=K.up hb
 clear hb
 refine⟨_,rfl,hK.out _ _ (HS.out _ _ _ _ K) fun hH=>?_⟩
 refine norm_ (a':=?_) ?_ ?_
 rotate_left
 ·show Act.put _ (some 9) _=_
  simp only[Act.put,kss,i64_w,i32_w]
  rfl
 refine pu_ 5 4 ?_ (bm_ 6 63) rfl rfl X0 (fun _ _ _ h=>h) F1 ?_ ?_ ?_ ?_
 rotate_left
 ·intro w'
  go_simp
  with_reducible rfl
 rotate_left
 ·simp only[Act.put,kss,i64_w,i32_w]
  rfl
 clear hK Kc
 rw[hBs.out,hVs.out,hOs.out]at K
 simp only[kls,klv]at K
 clear hBs hVs hOs HS hH
 refine done_ X0 ?_
 simp only[Option.some.injEq]at h
 subst h
 go_wp2
 go_ret
 exact⟨rfl,K.u.below⟩
def whole_number_long.f (l0_0:List Int) (a0_1:Bool):Option (Bool):=some (decide ((l0_0.length:Int)>4096))
theorem whole_number_long.calls (A0_0:Option Addr) (c0_0:Nat) (l0_0:List Int) (a0_1:Bool) (r:Bool) (w:World) (hr0_0:Kd.C (Kd.int .u64) w A0_0 l0_0.length l0_0) (hc0_0:l0_0.length≤c0_0) (h:whole_number_long.f l0_0 a0_1=some r) :
  Calls Tryz.prog 85 #[.agg #[.slice A0_0 l0_0.length c0_0,.bool a0_1]] w fun e w'=>e=.returned (.bool r)∧Below w.heap.size w w':=by
 have hu86:=Tryz.underlying86
 have K:=Kp.refl w
 replace K:=K.parV (Kd.V_mono (ok':=fun _=>True) (Kd.V_mk (e:=91) (base:=0) hc0_0 (Kd.C_F (Kd.heap_int .u64) hr0_0)) (fun _ h=>trivial))
 clear hr0_0 hc0_0
 try simp only[klv]at K
 rw[whole_number_long.f]at h
 simp only[Option.some.injEq]at h
 subst h
 go_enter Tryz.func85,Tryz.ntmps85
 go_wp2_with (first|(refine gd 1 rfl ?_;refine kbk 1 #[.slice A0_0 l0_0.length c0_0,.bool a0_1] 86 K.u ?_;clear K;intro g1 W2 K;obtain⟨ua0,ub0⟩:=K.cell2 0 rfl))
 go_ret
 exact⟨rfl,K.u.below⟩
mutual
def bits_Div64.j2:Nat→Int→Int→Int→Int→Int→Int→Int→Int→Option (Int×Int)
 | 0,_,_,_,_,_,_,_,_=>none
 | k+1,x2,x8,x9,x10,x11,x13,x14,x15=>if x9=0 then(none) else(bits_Div64.l1 k x2 x8 x9 x10 x14 x15 (IntKind.u64.wrap ((IntKind.u64.wrap ((IntKind.u64.wrap ((IntKind.u64.wrap (x11*4294967296))+x13))-(IntKind.u64.wrap (x15*x2))))-(IntKind.u64.wrap ((IntKind.u64.wrap (Int.tdiv (IntKind.u64.wrap ((IntKind.u64.wrap ((IntKind.u64.wrap (x11*4294967296))+x13))-(IntKind.u64.wrap (x15*x2)))) x9))*x9)))) (IntKind.u64.wrap ((IntKind.u64.wrap ((IntKind.u64.wrap (x11*4294967296))+x13))-(IntKind.u64.wrap (x15*x2)))) (IntKind.u64.wrap (Int.tdiv (IntKind.u64.wrap ((IntKind.u64.wrap ((IntKind.u64.wrap (x11*4294967296))+x13))-(IntKind.u64.wrap (x15*x2)))) x9)))
def bits_Div64.l1:Nat→Int→Int→Int→Int→Int→Int→Int→Int→Int→Option (Int×Int)
 | 0,_,_,_,_,_,_,_,_,_=>none
 | k+1,x2,x8,x9,x10,x14,x15,x16,x17,x18=>if x18≥4294967296 then(bits_Div64.j4 k x2 x8 x9 x10 x14 x15 x16 x17 x18 true) else(bits_Div64.j4 k x2 x8 x9 x10 x14 x15 x16 x17 x18 (decide ((IntKind.u64.wrap (x18*x10))>(IntKind.u64.wrap ((IntKind.u64.wrap (4294967296*x16))+x14)))))
def bits_Div64.j4:Nat→Int→Int→Int→Int→Int→Int→Int→Int→Int→Bool→Option (Int×Int)
 | 0,_,_,_,_,_,_,_,_,_,_=>none
 | k+1,x2,x8,x9,x10,x14,x15,x16,x17,x18,x113=>if x113=true then(if(IntKind.u64.wrap (x16+x9))≥4294967296 then(if 0≤x8 then(some (IntKind.u64.wrap ((IntKind.u64.wrap (x15*4294967296))+(IntKind.u64.wrap (x18-1))),shr .u64 (IntKind.u64.wrap ((IntKind.u64.wrap ((IntKind.u64.wrap (x17*4294967296))+x14))-(IntKind.u64.wrap ((IntKind.u64.wrap (x18-1))*x2)))) x8)) else(none)) else(bits_Div64.l1 k x2 x8 x9 x10 x14 x15 (IntKind.u64.wrap (x16+x9)) x17 (IntKind.u64.wrap (x18-1)))) else(if 0≤x8 then(some (IntKind.u64.wrap ((IntKind.u64.wrap (x15*4294967296))+x18),shr .u64 (IntKind.u64.wrap ((IntKind.u64.wrap ((IntKind.u64.wrap (x17*4294967296))+x14))-(IntKind.u64.wrap (x18*x2)))) x8)) else(none))
def bits_Div64.l0:Nat→Int→Int→Int→Int→Int→Int→Int→Int→Int→Option (Int×Int)
 | 0,_,_,_,_,_,_,_,_,_=>none
 | k+1,x2,x8,x9,x10,x11,x13,x14,x15,x16=>if x15≥4294967296 then(bits_Div64.j1 k x2 x8 x9 x10 x11 x13 x14 x15 x16 true) else(bits_Div64.j1 k x2 x8 x9 x10 x11 x13 x14 x15 x16 (decide ((IntKind.u64.wrap (x15*x10))>(IntKind.u64.wrap ((IntKind.u64.wrap (4294967296*x16))+x13)))))
def bits_Div64.j1:Nat→Int→Int→Int→Int→Int→Int→Int→Int→Int→Bool→Option (Int×Int)
 | 0,_,_,_,_,_,_,_,_,_,_=>none
 | k+1,x2,x8,x9,x10,x11,x13,x14,x15,x16,x78=>if x78=true then(if(IntKind.u64.wrap (x16+x9))≥4294967296 then(bits_Div64.j2 k x2 x8 x9 x10 x11 x13 x14 (IntKind.u64.wrap (x15-1))) else(bits_Div64.l0 k x2 x8 x9 x10 x11 x13 x14 (IntKind.u64.wrap (x15-1)) (IntKind.u64.wrap (x16+x9)))) else(bits_Div64.j2 k x2 x8 x9 x10 x11 x13 x14 x15)
end
def bits_Div64.f (k:Nat) (a0:Int) (a1:Int) (a2:Int):Option (Int×Int):=if a2=0 then(none) else(if a2≤a0 then(none) else(if a0=0 then(some (IntKind.u64.wrap (Int.tdiv a1 a2),Int.tmod a1 a2)) else((bits_LeadingZeros64.f a2).bind fun t149=>(if 0≤(IntKind.u64.wrap (t149)) then(if 0≤(IntKind.u64.wrap (64-(IntKind.u64.wrap (t149)))) then(if((shl .u64 a2 (IntKind.u64.wrap (t149)))/4294967296)=0 then(none) else(bits_Div64.l0 k (shl .u64 a2 (IntKind.u64.wrap (t149))) (IntKind.u64.wrap (t149)) ((shl .u64 a2 (IntKind.u64.wrap (t149)))/4294967296) (Go.bits .and .u64 (shl .u64 a2 (IntKind.u64.wrap (t149))) 4294967295) (Go.bits .or .u64 (shl .u64 a0 (IntKind.u64.wrap (t149))) (shr .u64 a1 (IntKind.u64.wrap (64-(IntKind.u64.wrap (t149)))))) ((shl .u64 a1 (IntKind.u64.wrap (t149)))/4294967296) (Go.bits .and .u64 (shl .u64 a1 (IntKind.u64.wrap (t149))) 4294967295) (IntKind.u64.wrap (Int.tdiv (Go.bits .or .u64 (shl .u64 a0 (IntKind.u64.wrap (t149))) (shr .u64 a1 (IntKind.u64.wrap (64-(IntKind.u64.wrap (t149)))))) ((shl .u64 a2 (IntKind.u64.wrap (t149)))/4294967296))) (IntKind.u64.wrap ((Go.bits .or .u64 (shl .u64 a0 (IntKind.u64.wrap (t149))) (shr .u64 a1 (IntKind.u64.wrap (64-(IntKind.u64.wrap (t149))))))-(IntKind.u64.wrap ((IntKind.u64.wrap (Int.tdiv (Go.bits .or .u64 (shl .u64 a0 (IntKind.u64.wrap (t149))) (shr .u64 a1 (IntKind.u64.wrap (64-(IntKind.u64.wrap (t149)))))) ((shl .u64 a2 (IntKind.u64.wrap (t149)))/4294967296)))*((shl .u64 a2 (IntKind.u64.wrap (t149)))/4294967296))))))) else(none)) else(none)))))
theorem bits_Div64.calls (k:Nat) (a0:Int) (a1:Int) (a2:Int) (r1:Int) (r2:Int) (w:World) (h:bits_Div64.f k a0 a1 a2=some (r1,r2)) :
  Calls Tryz.prog 159 #[.int .u64 a0,.int .u64 a1,.int .u64 a2] w fun e w'=>e=.returned (.tuple #[.int .u64 r1,.int .u64 r2])∧Drawn0 w w':=by
 have H:(if a2=0 then(none) else(if a2≤a0 then(none) else(if a0=0 then(some (IntKind.u64.wrap (Int.tdiv a1 a2),Int.tmod a1 a2)) else((bits_LeadingZeros64.f a2).bind fun ab=>(if 0≤(IntKind.u64.wrap (ab)) then(if 0≤(IntKind.u64.wrap (64-(IntKind.u64.wrap (ab)))) then(if((shl .u64 a2 (IntKind.u64.wrap (ab)))/4294967296)=0 then(none) else(bits_Div64.l0 k (shl .u64 a2 (IntKind.u64.wrap (ab))) (IntKind.u64.wrap (ab)) ((shl .u64 a2 (IntKind.u64.wrap (ab)))/4294967296) (Go.bits .and .u64 (shl .u64 a2 (IntKind.u64.wrap (ab))) 4294967295) (Go.bits .or .u64 (shl .u64 a0 (IntKind.u64.wrap (ab))) (shr .u64 a1 (IntKind.u64.wrap (64-(IntKind.u64.wrap (ab)))))) ((shl .u64 a1 (IntKind.u64.wrap (ab)))/4294967296) (Go.bits .and .u64 (shl .u64 a1 (IntKind.u64.wrap (ab))) 4294967295) (IntKind.u64.wrap (Int.tdiv (Go.bits .or .u64 (shl .u64 a0 (IntKind.u64.wrap (ab))) (shr .u64 a1 (IntKind.u64.wrap (64-(IntKind.u64.wrap (ab)))))) ((shl .u64 a2 (IntKind.u64.wrap (ab)))/4294967296))) (IntKind.u64.wrap ((Go.bits .or .u64 (shl .u64 a0 (IntKind.u64.wrap (ab))) (shr .u64 a1 (IntKind.u64.wrap (64-(IntKind.u64.wrap (ab))))))-(IntKind.u64.wrap ((IntKind.u64.wrap (Int.tdiv (Go.bits .or .u64 (shl .u64 a0 (IntKind.u64.wrap (ab))) (shr .u64 a1 (IntKind.u64.wrap (64-(IntKind.u64.wrap (ab)))))) ((shl .u64 a2 (IntKind.u64.wrap (ab)))/4294967296)))*((shl .u64 a2 (IntKind.u64.wrap (ab)))/4294967296))))))) else(none)) else(none))))))=some (r1,r2):=h
 clear h
 by_cases c4:a2=0
 ·rw[if_pos c4]at H
  exact absurd H Z1
 rw[if_neg c4]at H
 have aE:(a2==0)=false:=beq_eq_false_iff_ne.mpr c4
 have aF:(a2 != 0)=true:=bne_iff_ne.mpr c4
 by_cases c5:a2≤a0
 ·rw[if_pos c5]at H
  exact absurd H Z1
 rw[if_neg c5]at H
 have aG:decide (a2≤a0)=false:=decide_eq_false c5
 clear c5
 by_cases c6:a0=0
 ·rw[if_pos c6]at H
  have aB:(a0==0)=true:=beq_iff_eq.mpr c6
  have aC:(a0 != 0)=false:=bne_eq_false_iff_eq.mpr c6
  clear c6
  simp only[Option.some.injEq,Prod.mk.injEq]at H
  obtain⟨rfl,rfl⟩:=H
  go_enter Tryz.func159,Tryz.ntmps159
  go_wp2
  repeat (go_quiet (fail);try go_wp2)
  go_ret2
  exact⟨Y0,Y1⟩
 rw[if_neg c6]at H
 have aB:(a0==0)=false:=beq_eq_false_iff_ne.mpr c6
 have aC:(a0 != 0)=true:=bne_iff_ne.mpr c6
 replace H:=Option.bind_eq_some_iff.mp H
 obtain⟨ab,A70,H⟩:=H
 replace H:(if 0≤(IntKind.u64.wrap (ab)) then(if 0≤(IntKind.u64.wrap (64-(IntKind.u64.wrap (ab)))) then(if((shl .u64 a2 (IntKind.u64.wrap (ab)))/4294967296)=0 then(none) else(bits_Div64.l0 k (shl .u64 a2 (IntKind.u64.wrap (ab))) (IntKind.u64.wrap (ab)) ((shl .u64 a2 (IntKind.u64.wrap (ab)))/4294967296) (Go.bits .and .u64 (shl .u64 a2 (IntKind.u64.wrap (ab))) 4294967295) (Go.bits .or .u64 (shl .u64 a0 (IntKind.u64.wrap (ab))) (shr .u64 a1 (IntKind.u64.wrap (64-(IntKind.u64.wrap (ab)))))) ((shl .u64 a1 (IntKind.u64.wrap (ab)))/4294967296) (Go.bits .and .u64 (shl .u64 a1 (IntKind.u64.wrap (ab))) 4294967295) (IntKind.u64.wrap (Int.tdiv (Go.bits .or .u64 (shl .u64 a0 (IntKind.u64.wrap (ab))) (shr .u64 a1 (IntKind.u64.wrap (64-(IntKind.u64.wrap (ab)))))) ((shl .u64 a2 (IntKind.u64.wrap (ab)))/4294967296))) (IntKind.u64.wrap ((Go.bits .or .u64 (shl .u64 a0 (IntKind.u64.wrap (ab))) (shr .u64 a1 (IntKind.u64.wrap (64-(IntKind.u64.wrap (ab))))))-(IntKind.u64.wrap ((IntKind.u64.wrap (Int.tdiv (Go.bits .or .u64 (shl .u64 a0 (IntKind.u64.wrap (ab))) (shr .u64 a1 (IntKind.u64.wrap (64-(IntKind.u64.wrap (ab)))))) ((shl .u64 a2 (IntKind.u64.wrap (ab)))/4294967296)))*((shl .u64 a2 (IntKind.u64.wrap (ab)))/4294967296))))))) else(none)) else(none))=some (r1,r2):=H
 have A7:=Aside0.mk A70
 clear A70
 obtain⟨ji8,aH⟩:∃j_:Int,(IntKind.u64.wrap (ab))=j_:=⟨_,rfl⟩
 replace H:(if 0≤(ji8) then(if 0≤(IntKind.u64.wrap (64-(ji8))) then(if((shl .u64 a2 (ji8))/4294967296)=0 then(none) else(bits_Div64.l0 k (shl .u64 a2 (ji8)) ji8 ((shl .u64 a2 (ji8))/4294967296) (Go.bits .and .u64 (shl .u64 a2 (ji8)) 4294967295) (Go.bits .or .u64 (shl .u64 a0 (ji8)) (shr .u64 a1 (IntKind.u64.wrap (64-(ji8))))) ((shl .u64 a1 (ji8))/4294967296) (Go.bits .and .u64 (shl .u64 a1 (ji8)) 4294967295) (IntKind.u64.wrap (Int.tdiv (Go.bits .or .u64 (shl .u64 a0 (ji8)) (shr .u64 a1 (IntKind.u64.wrap (64-(ji8))))) ((shl .u64 a2 (ji8))/4294967296))) (IntKind.u64.wrap ((Go.bits .or .u64 (shl .u64 a0 (ji8)) (shr .u64 a1 (IntKind.u64.wrap (64-(ji8)))))-(IntKind.u64.wrap ((IntKind.u64.wrap (Int.tdiv (Go.bits .or .u64 (shl .u64 a0 (ji8)) (shr .u64 a1 (IntKind.u64.wrap (64-(ji8))))) ((shl .u64 a2 (ji8))/4294967296)))*((shl .u64 a2 (ji8))/4294967296))))))) else(none)) else(none))=some (r1,r2):=by first|(rw[aH]at H;exact H)|(simp only[aH]at H ⊢;exact H)
 (try rw[aH]at A7)
 by_cases c9:0≤(ji8)
 ·rw [if_pos c9]at H
  have aI:=eq_true c9
  have aJ:decide (0≤(ji8))=true:=decide_eq_true c9
  clear c9
  obtain⟨aa,hji10⟩:∃j_:Int,(shl .u64 a2 (ji8))=j_:=⟨_,rfl⟩
  replace H:(if 0≤(IntKind.u64.wrap (64-(ji8))) then(if((aa)/4294967296)=0 then(none) else(bits_Div64.l0 k aa ji8 ((aa)/4294967296) (Go.bits .and .u64 (aa) 4294967295) (Go.bits .or .u64 (shl .u64 a0 (ji8)) (shr .u64 a1 (IntKind.u64.wrap (64-(ji8))))) ((shl .u64 a1 (ji8))/4294967296) (Go.bits .and .u64 (shl .u64 a1 (ji8)) 4294967295) (IntKind.u64.wrap (Int.tdiv (Go.bits .or .u64 (shl .u64 a0 (ji8)) (shr .u64 a1 (IntKind.u64.wrap (64-(ji8))))) ((aa)/4294967296))) (IntKind.u64.wrap ((Go.bits .or .u64 (shl .u64 a0 (ji8)) (shr .u64 a1 (IntKind.u64.wrap (64-(ji8)))))-(IntKind.u64.wrap ((IntKind.u64.wrap (Int.tdiv (Go.bits .or .u64 (shl .u64 a0 (ji8)) (shr .u64 a1 (IntKind.u64.wrap (64-(ji8))))) ((aa)/4294967296)))*((aa)/4294967296))))))) else(none))=some (r1,r2):=by first|(rw[hji10]at H;exact H)|(simp only[hji10]at H ⊢;exact H)
  (try rw[hji10]at A7)
  have hji10_:(IntKind.u64.wrap (a2*2^min (ji8).toNat 64))=aa:=hji10
  have aY:(ji8)≤64→(IntKind.u64.wrap (a2*2^(ji8).toNat))=aa:=shl_small hji10
  have ao:=eq_true (of_decide_eq_true ‹_›:0≤(ji8))
  obtain⟨ad,hji12⟩:∃j_:Int,(shl .u64 a0 (ji8))=j_:=⟨_,rfl⟩
  replace H:(if 0≤(IntKind.u64.wrap (64-(ji8))) then(if((aa)/4294967296)=0 then(none) else(bits_Div64.l0 k aa ji8 ((aa)/4294967296) (Go.bits .and .u64 (aa) 4294967295) (Go.bits .or .u64 (ad) (shr .u64 a1 (IntKind.u64.wrap (64-(ji8))))) ((shl .u64 a1 (ji8))/4294967296) (Go.bits .and .u64 (shl .u64 a1 (ji8)) 4294967295) (IntKind.u64.wrap (Int.tdiv (Go.bits .or .u64 (ad) (shr .u64 a1 (IntKind.u64.wrap (64-(ji8))))) ((aa)/4294967296))) (IntKind.u64.wrap ((Go.bits .or .u64 (ad) (shr .u64 a1 (IntKind.u64.wrap (64-(ji8)))))-(IntKind.u64.wrap ((IntKind.u64.wrap (Int.tdiv (Go.bits .or .u64 (ad) (shr .u64 a1 (IntKind.u64.wrap (64-(ji8))))) ((aa)/4294967296)))*((aa)/4294967296))))))) else(none))=some (r1,r2):=by first|(rw[hji12]at H;exact H)|(simp only[hji12]at H ⊢;exact H)
  (try rw[hji12]at A7)
  have hji12_:(IntKind.u64.wrap (a0*2^min (ji8).toNat 64))=ad:=hji12
  have aZ:(ji8)≤64→(IntKind.u64.wrap (a0*2^(ji8).toNat))=ad:=shl_small hji12
  obtain⟨al,ap⟩:∃j_:Int,(IntKind.u64.wrap (64-(ji8)))=j_:=⟨_,rfl⟩
  replace H:(if 0≤(al) then(if((aa)/4294967296)=0 then(none) else(bits_Div64.l0 k aa ji8 ((aa)/4294967296) (Go.bits .and .u64 (aa) 4294967295) (Go.bits .or .u64 (ad) (shr .u64 a1 (al))) ((shl .u64 a1 (ji8))/4294967296) (Go.bits .and .u64 (shl .u64 a1 (ji8)) 4294967295) (IntKind.u64.wrap (Int.tdiv (Go.bits .or .u64 (ad) (shr .u64 a1 (al))) ((aa)/4294967296))) (IntKind.u64.wrap ((Go.bits .or .u64 (ad) (shr .u64 a1 (al)))-(IntKind.u64.wrap ((IntKind.u64.wrap (Int.tdiv (Go.bits .or .u64 (ad) (shr .u64 a1 (al))) ((aa)/4294967296)))*((aa)/4294967296))))))) else(none))=some (r1,r2):=by first|(rw[ap]at H;exact H)|(simp only[ap]at H ⊢;exact H)
  (try rw[ap]at A7)
  by_cases c14:0≤(al)
  ·rw [if_pos c14]at H
   have aq:=eq_true c14
   have ar:decide (0≤(al))=true:=decide_eq_true c14
   clear c14
   obtain⟨af,hji15⟩:∃j_:Int,(shr .u64 a1 (al))=j_:=⟨_,rfl⟩
   replace H:(if((aa)/4294967296)=0 then(none) else(bits_Div64.l0 k aa ji8 ((aa)/4294967296) (Go.bits .and .u64 (aa) 4294967295) (Go.bits .or .u64 (ad) (af)) ((shl .u64 a1 (ji8))/4294967296) (Go.bits .and .u64 (shl .u64 a1 (ji8)) 4294967295) (IntKind.u64.wrap (Int.tdiv (Go.bits .or .u64 (ad) (af)) ((aa)/4294967296))) (IntKind.u64.wrap ((Go.bits .or .u64 (ad) (af))-(IntKind.u64.wrap ((IntKind.u64.wrap (Int.tdiv (Go.bits .or .u64 (ad) (af)) ((aa)/4294967296)))*((aa)/4294967296)))))))=some (r1,r2):=by first|(rw[hji15]at H;exact H)|(simp only[hji15]at H ⊢;exact H)
   (try rw[hji15]at A7)
   have hji15_:(a1/2^min (al).toNat 64)=af:=hji15
   have bb:(al)≤64→(a1/2^(al).toNat)=af:=shr_small hji15
   have au:=eq_true (of_decide_eq_true ‹_›:0≤(ji8))
   obtain⟨ac,hji17⟩:∃j_:Int,(shl .u64 a1 (ji8))=j_:=⟨_,rfl⟩
   replace H:(if((aa)/4294967296)=0 then(none) else(bits_Div64.l0 k aa ji8 ((aa)/4294967296) (Go.bits .and .u64 (aa) 4294967295) (Go.bits .or .u64 (ad) (af)) ((ac)/4294967296) (Go.bits .and .u64 (ac) 4294967295) (IntKind.u64.wrap (Int.tdiv (Go.bits .or .u64 (ad) (af)) ((aa)/4294967296))) (IntKind.u64.wrap ((Go.bits .or .u64 (ad) (af))-(IntKind.u64.wrap ((IntKind.u64.wrap (Int.tdiv (Go.bits .or .u64 (ad) (af)) ((aa)/4294967296)))*((aa)/4294967296)))))))=some (r1,r2):=by first|(rw[hji17]at H;exact H)|(simp only[hji17]at H ⊢;exact H)
   (try rw[hji17]at A7)
   have hji17_:(IntKind.u64.wrap (a1*2^min (ji8).toNat 64))=ac:=hji17
   have bc:(ji8)≤64→(IntKind.u64.wrap (a1*2^(ji8).toNat))=ac:=shl_small hji17
   by_cases c18:((aa)/4294967296)=0
   ·rw[if_pos c18]at H
    exact absurd H Z1
   rw[if_neg c18]at H
   have av:(((aa)/4294967296)==0)=false:=beq_eq_false_iff_ne.mpr c18
   have aw:(((aa)/4294967296) != 0)=true:=bne_iff_ne.mpr c18
   have aL:=Aside0.mk H
   clear H
   go_enter Tryz.func159,Tryz.ntmps159
   go_upto_block 0 with(first|(go_at_call 174;(with_reducible refine(bits_LeadingZeros64.calls a2 ab _ A7.out).mono ?_);rintro e w' ⟨rfl,⟨nd,rfl⟩⟩;(try first|exact⟨rfl,_,World.drewN_drewN _ _ _⟩|exact⟨rfl,_,Eq.trans (World.drewN_drewN _ _ _) (congrArg (World.drewN _) (Nat.add_assoc _ _ _))⟩)))
   repeat (go_quiet (first|(go_at_call 174;(with_reducible refine(bits_LeadingZeros64.calls a2 ab _ A7.out).mono ?_);rintro e w' ⟨rfl,⟨nd,rfl⟩⟩;(try first|exact⟨rfl,_,World.drewN_drewN _ _ _⟩|exact⟨rfl,_,Eq.trans (World.drewN_drewN _ _ _) (congrArg (World.drewN _) (Nat.add_assoc _ _ _))⟩)));go_upto_block 0 with(first|(go_at_call 174;(with_reducible refine(bits_LeadingZeros64.calls a2 ab _ A7.out).mono ?_);rintro e w' ⟨rfl,⟨nd,rfl⟩⟩;(try first|exact⟨rfl,_,World.drewN_drewN _ _ _⟩|exact⟨rfl,_,Eq.trans (World.drewN_drewN _ _ _) (congrArg (World.drewN _) (Nat.add_assoc _ _ _))⟩))))
   (try simp only[Act.put,kss])
   go_cut [15] (fun v15 wc=>∃(kq:Nat) (ae:Int),v15=.int .u64 ae∧Aside0 (bits_Div64.j2 kq aa ji8 ((aa)/4294967296) (Go.bits .and .u64 (aa) 4294967295) (Go.bits .or .u64 (ad) (af)) ((ac)/4294967296) (Go.bits .and .u64 (ac) 4294967295) ae=some (r1,r2))∧Aside0 (kq≤k)∧Drawn0 w wc)
   case first=>
    have H:=aL.out
    clear aL
    have H':=Aside0.mk H
    clear H
    go_wp2
    repeat (go_quiet (fail);try go_wp2)
    go_loopg [15,16] k (fun kq v15 v16 w'=>∃(ah:Int) (ai:Int),v15=.int .u64 ah∧v16=.int .u64 ai∧Aside0 (bits_Div64.l0 kq aa ji8 ((aa)/4294967296) (Go.bits .and .u64 (aa) 4294967295) (Go.bits .or .u64 (ad) (af)) ((ac)/4294967296) (Go.bits .and .u64 (ac) 4294967295) ah ai=some (r1,r2))∧Aside0 (kq≤k)∧Drawn0 w w')
    case atStart=>exact⟨(IntKind.u64.wrap (Int.tdiv (Go.bits .or .u64 (ad) (af)) ((aa)/4294967296))),(IntKind.u64.wrap ((Go.bits .or .u64 (ad) (af))-(IntKind.u64.wrap ((IntKind.u64.wrap (Int.tdiv (Go.bits .or .u64 (ad) (af)) ((aa)/4294967296)))*((aa)/4294967296))))),Z9,Z9,H',⟨Nat.le_refl _⟩,Y1⟩
    case round=>
     clear H'
     try clear c1
     try clear p2
     try clear c4
     try clear aE
     try clear aF
     try clear c5
     try clear aG
     try clear c6
     try clear aB
     try clear aC
     try clear c9
     try clear aI
     try clear aJ
     try clear c11
     try clear ao
     try clear c14
     try clear aq
     try clear ar
     try clear c15
     try clear c16
     try clear au
     try clear c18
     try clear av
     try clear aw
     obtain⟨ah,ai,rfl,rfl,HA,HK1,⟨m1,rfl⟩⟩:=hrel
     cases gk with
     | zero=>exact absurd HA.out (by simp[bits_Div64.l0])
     | succ k1=>
      have H:=HA.out
      clear HA
      simp only[bits_Div64.l0]at H
      have aM:=Aside0.mk H
      clear H
      go_upto_region 17 with(fail)
      repeat (go_quiet (fail);go_upto_region 17 with(fail))
      go_cut [78] (fun v78 wc=>∃(kq:Nat) (ax:Bool),v78=.bool ax∧Aside0 (bits_Div64.j1 kq aa ji8 ((aa)/4294967296) (Go.bits .and .u64 (aa) 4294967295) (Go.bits .or .u64 (ad) (af)) ((ac)/4294967296) (Go.bits .and .u64 (ac) 4294967295) ah ai ax=some (r1,r2))∧Aside0 (kq≤k1)∧Drawn0 w wc)
      case first=>
       have H:=aM.out
       clear aM
       by_cases c21:ah≥4294967296
       ·rw[if_pos c21]at H
        have ak:decide (4294967296≤ah)=true:=decide_eq_true c21
        clear c21
        (first|rw[ak]|rw[ay]|(simp only[i64_w,i32_w];rw[ak])|skip)
        have H':=Aside0.mk H
        clear H
        go_wp2
        repeat (go_quiet (fail);try go_wp2)
        go_meet
        case rel=>exact⟨_,(true),Y0,H',⟨V6⟩,Y1⟩
       rw[if_neg c21]at H
       have ak:decide (4294967296≤ah)=false:=decide_eq_false c21
       clear c21
       (first|rw[ak]|rw[ay]|(simp only[i64_w,i32_w];rw[ak])|skip)
       have H':=Aside0.mk H
       clear H
       go_wp2
       repeat (go_quiet (fail);try go_wp2)
       go_meet
       case rel=>exact⟨_,(decide ((IntKind.u64.wrap (ah*(Go.bits .and .u64 (aa) 4294967295)))>(IntKind.u64.wrap ((IntKind.u64.wrap (4294967296*ai))+((ac)/4294967296))))),X9,H',⟨V6⟩,Y1⟩
      case rest=>
       clear aM
       try clear c1
       try clear c2
       try clear p2
       try clear c4
       try clear aE
       try clear aF
       try clear c5
       try clear aG
       try clear c6
       try clear aB
       try clear aC
       try clear c9
       try clear aI
       try clear aJ
       try clear c11
       try clear ao
       try clear c14
       try clear aq
       try clear ar
       try clear c15
       try clear c16
       try clear au
       try clear c18
       try clear av
       try clear aw
       try clear c21
       try clear ak
       try clear ay
       try clear p2
       obtain⟨kq,ax,rfl,HA,HJ19,⟨bj,rfl⟩⟩:=hcut
       cases kq with
       | zero=>exact absurd HA.out (by simp[bits_Div64.j1])
       | succ aK=>
        have H:=HA.out
        clear HA
        simp only[bits_Div64.j1]at H
        by_cases c22:ax=true
        ·subst c22
         have H1:(if(IntKind.u64.wrap (ai+((aa)/4294967296)))≥4294967296 then(bits_Div64.j2 aK aa ji8 ((aa)/4294967296) (Go.bits .and .u64 (aa) 4294967295) (Go.bits .or .u64 (ad) (af)) ((ac)/4294967296) (Go.bits .and .u64 (ac) 4294967295) (IntKind.u64.wrap (ah-1))) else(bits_Div64.l0 aK aa ji8 ((aa)/4294967296) (Go.bits .and .u64 (aa) 4294967295) (Go.bits .or .u64 (ad) (af)) ((ac)/4294967296) (Go.bits .and .u64 (ac) 4294967295) (IntKind.u64.wrap (ah-1)) (IntKind.u64.wrap (ai+((aa)/4294967296)))))=some (r1,r2):=by rw[if_pos rfl]at H;exact H
         clear H
         have H:=H1
         clear H1
         by_cases c23:(IntKind.u64.wrap (ai+((aa)/4294967296)))≥4294967296
         ·rw[if_pos c23]at H
          have aD:decide (4294967296≤(IntKind.u64.wrap (ai+((aa)/4294967296))))=true:=decide_eq_true c23
          clear c23
          have H':=Aside0.mk H
          clear H
          go_wp2
          repeat (go_quiet (fail);try go_wp2)
          go_meet
          case rel=>exact⟨_,(IntKind.u64.wrap (ah-1)),Y0,H',⟨by have:=HK1.out;have:=HJ19.out;first|omega|exact Nat.le_refl _⟩,Y1⟩
         rw[if_neg c23]at H
         have aD:decide (4294967296≤(IntKind.u64.wrap (ai+((aa)/4294967296))))=false:=decide_eq_false c23
         clear c23
         have H':=Aside0.mk H
         clear H
         go_wp2
         repeat (go_quiet (fail);try go_wp2)
         go_roundg aK
         case measure=>have:=HK1.out;have:=HJ19.out;omega
         case rel=>exact⟨(IntKind.u64.wrap (ah-1)),(IntKind.u64.wrap (ai+((aa)/4294967296))),Y0,J9,H',⟨by have:=HK1.out;have:=HJ19.out;omega⟩,Y1⟩
        replace c22:=Bool.eq_false_iff.mpr c22
        subst c22
        have H1:(bits_Div64.j2 aK aa ji8 ((aa)/4294967296) (Go.bits .and .u64 (aa) 4294967295) (Go.bits .or .u64 (ad) (af)) ((ac)/4294967296) (Go.bits .and .u64 (ac) 4294967295) ah)=some (r1,r2):=by rw[if_neg (show ¬(false=true) by decide)]at H;exact H
        clear H
        have H:=H1
        clear H1
        have H':=Aside0.mk H
        clear H
        go_wp2
        repeat (go_quiet (fail);try go_wp2)
        go_meet
        case rel=>exact⟨_,(ah),Y0,H',⟨by have:=HK1.out;have:=HJ19.out;first|omega|exact Nat.le_refl _⟩,Y1⟩
   case rest=>
    clear aL
    try clear c1
    try clear c2
    try clear p2
    try clear c4
    try clear aE
    try clear aF
    try clear c5
    try clear aG
    try clear c6
    try clear aB
    try clear aC
    try clear c9
    try clear aI
    try clear aJ
    try clear c11
    try clear ao
    try clear c14
    try clear aq
    try clear ar
    try clear c15
    try clear c16
    try clear au
    try clear c18
    try clear av
    try clear aw
    try clear c19
    try clear c21
    try clear ak
    try clear ay
    try clear c22
    try clear c23
    try clear aD
    try clear p2
    obtain⟨kq,ae,rfl,HA,HJ18,⟨bk,rfl⟩⟩:=hcut
    cases kq with
    | zero=>exact absurd HA.out (by simp[bits_Div64.j2])
    | succ aT=>
     have H:=HA.out
     clear HA
     simp only[bits_Div64.j2]at H
     by_cases c24:((aa)/4294967296)=0
     ·rw[if_pos c24]at H
      exact absurd H Z1
     rw[if_neg c24]at H
     have aQ:(((aa)/4294967296)==0)=false:=beq_eq_false_iff_ne.mpr c24
     have aR:(((aa)/4294967296) != 0)=true:=bne_iff_ne.mpr c24
     have H':=Aside0.mk H
     clear H
     go_wp2
     repeat (go_quiet (fail);try go_wp2)
     go_loopg [16,18] aT (fun kq v16 v18 w'=>∃(aj:Int) (ag:Int),v16=.int .u64 aj∧v18=.int .u64 ag∧Aside0 (bits_Div64.l1 kq aa ji8 ((aa)/4294967296) (Go.bits .and .u64 (aa) 4294967295) (Go.bits .and .u64 (ac) 4294967295) ae aj (IntKind.u64.wrap ((IntKind.u64.wrap ((IntKind.u64.wrap ((Go.bits .or .u64 (ad) (af))*4294967296))+((ac)/4294967296)))-(IntKind.u64.wrap (ae*aa)))) ag=some (r1,r2))∧Aside0 (kq≤aT)∧Drawn0 w w')
     case atStart=>exact⟨(IntKind.u64.wrap ((IntKind.u64.wrap ((IntKind.u64.wrap ((IntKind.u64.wrap ((Go.bits .or .u64 (ad) (af))*4294967296))+((ac)/4294967296)))-(IntKind.u64.wrap (ae*aa))))-(IntKind.u64.wrap ((IntKind.u64.wrap (Int.tdiv (IntKind.u64.wrap ((IntKind.u64.wrap ((IntKind.u64.wrap ((Go.bits .or .u64 (ad) (af))*4294967296))+((ac)/4294967296)))-(IntKind.u64.wrap (ae*aa)))) ((aa)/4294967296)))*((aa)/4294967296))))),(IntKind.u64.wrap (Int.tdiv (IntKind.u64.wrap ((IntKind.u64.wrap ((IntKind.u64.wrap ((Go.bits .or .u64 (ad) (af))*4294967296))+((ac)/4294967296)))-(IntKind.u64.wrap (ae*aa)))) ((aa)/4294967296))),V8,V8,H',⟨Nat.le_refl _⟩,Y1⟩
     case round=>
      clear H'
      try clear c1
      try clear c2
      try clear p2
      try clear c4
      try clear aE
      try clear aF
      try clear c5
      try clear aG
      try clear c6
      try clear aB
      try clear aC
      try clear c9
      try clear aI
      try clear aJ
      try clear c11
      try clear ao
      try clear c14
      try clear aq
      try clear ar
      try clear c15
      try clear c16
      try clear au
      try clear c18
      try clear av
      try clear aw
      try clear c19
      try clear c21
      try clear ak
      try clear ay
      try clear c22
      try clear c23
      try clear aD
      try clear c24
      try clear aQ
      try clear aR
      try clear p2
      obtain⟨aj,ag,rfl,rfl,HA,HK2,⟨m2,rfl⟩⟩:=hrel
      cases gk with
      | zero=>exact absurd HA.out (by simp[bits_Div64.l1])
      | succ k2=>
       have H:=HA.out
       clear HA
       simp only[bits_Div64.l1]at H
       have aN:=Aside0.mk H
       clear H
       go_upto_region 24 with(fail)
       repeat (go_quiet (fail);go_upto_region 24 with(fail))
       go_cut [113] (fun aX wc=>∃(kq:Nat) (am:Bool),aX=.bool am∧Aside0 (bits_Div64.j4 kq aa ji8 ((aa)/4294967296) (Go.bits .and .u64 (aa) 4294967295) (Go.bits .and .u64 (ac) 4294967295) ae aj (IntKind.u64.wrap ((IntKind.u64.wrap ((IntKind.u64.wrap ((Go.bits .or .u64 (ad) (af))*4294967296))+((ac)/4294967296)))-(IntKind.u64.wrap (ae*aa)))) ag am=some (r1,r2))∧Aside0 (kq≤k2)∧Drawn0 w wc)
       case first=>
        have H:=aN.out
        clear aN
        by_cases c26:ag≥4294967296
        ·rw[if_pos c26]at H
         have an:decide (4294967296≤ag)=true:=decide_eq_true c26
         clear c26
         (first|rw[an]|rw[aS]|(simp only[i64_w,i32_w];rw[an])|skip)
         have H':=Aside0.mk H
         clear H
         go_wp2
         repeat (go_quiet (fail);try go_wp2)
         go_meet
         case rel=>exact⟨_,(true),Y0,H',⟨by have:=HJ18.out;have:=HK2.out;first|omega|exact Nat.le_refl _⟩,Y1⟩
        rw[if_neg c26]at H
        have an:decide (4294967296≤ag)=false:=decide_eq_false c26
        clear c26
        (first|rw[an]|rw[aS]|(simp only[i64_w,i32_w];rw[an])|skip)
        have H':=Aside0.mk H
        clear H
        go_wp2
        repeat (go_quiet (fail);try go_wp2)
        go_meet
        case rel=>exact⟨_,(decide ((IntKind.u64.wrap (ag*(Go.bits .and .u64 (aa) 4294967295)))>(IntKind.u64.wrap ((IntKind.u64.wrap (4294967296*aj))+(Go.bits .and .u64 (ac) 4294967295))))),X9,H',⟨by have:=HJ18.out;have:=HK2.out;first|omega|exact Nat.le_refl _⟩,Y1⟩
       case rest=>
        clear aN
        try clear c1
        try clear c2
        try clear p2
        try clear c4
        try clear aE
        try clear aF
        try clear c5
        try clear aG
        try clear c6
        try clear aB
        try clear aC
        try clear c9
        try clear aI
        try clear aJ
        try clear c11
        try clear ao
        try clear c14
        try clear aq
        try clear ar
        try clear c15
        try clear c16
        try clear au
        try clear c18
        try clear av
        try clear aw
        try clear c19
        try clear c21
        try clear ak
        try clear ay
        try clear c22
        try clear c23
        try clear aD
        try clear c24
        try clear aQ
        try clear aR
        try clear c26
        try clear an
        try clear aS
        try clear p2
        obtain⟨kq,am,rfl,HA,aU,⟨bl,rfl⟩⟩:=hcut
        cases kq with
        | zero=>exact absurd HA.out (by simp[bits_Div64.j4])
        | succ aV=>
         have H:=HA.out
         clear HA
         simp only[bits_Div64.j4]at H
         by_cases c27:am=true
         ·subst c27
          have H1:(if(IntKind.u64.wrap (aj+((aa)/4294967296)))≥4294967296 then(if 0≤ji8 then(some (IntKind.u64.wrap ((IntKind.u64.wrap (ae*4294967296))+(IntKind.u64.wrap (ag-1))),shr .u64 (IntKind.u64.wrap ((IntKind.u64.wrap ((IntKind.u64.wrap ((IntKind.u64.wrap ((IntKind.u64.wrap ((IntKind.u64.wrap ((Go.bits .or .u64 (ad) (af))*4294967296))+((ac)/4294967296)))-(IntKind.u64.wrap (ae*aa))))*4294967296))+(Go.bits .and .u64 (ac) 4294967295)))-(IntKind.u64.wrap ((IntKind.u64.wrap (ag-1))*aa)))) ji8)) else(none)) else(bits_Div64.l1 aV aa ji8 ((aa)/4294967296) (Go.bits .and .u64 (aa) 4294967295) (Go.bits .and .u64 (ac) 4294967295) ae (IntKind.u64.wrap (aj+((aa)/4294967296))) (IntKind.u64.wrap ((IntKind.u64.wrap ((IntKind.u64.wrap ((Go.bits .or .u64 (ad) (af))*4294967296))+((ac)/4294967296)))-(IntKind.u64.wrap (ae*aa)))) (IntKind.u64.wrap (ag-1))))=some (r1,r2):=by rw[if_pos rfl]at H;exact H
          clear H
          have H:=H1
          clear H1
          by_cases c28:(IntKind.u64.wrap (aj+((aa)/4294967296)))≥4294967296
          ·rw[if_pos c28]at H
           have aW:decide (4294967296≤(IntKind.u64.wrap (aj+((aa)/4294967296))))=true:=decide_eq_true c28
           clear c28
           by_cases c29:0≤ji8
           ·rw[if_pos c29]at H
            have bf:=eq_true c29
            have bg:decide (0≤ji8)=true:=decide_eq_true c29
            clear c29
            obtain⟨aO,az⟩:∃j_:Int,(shr .u64 (IntKind.u64.wrap ((IntKind.u64.wrap ((IntKind.u64.wrap ((IntKind.u64.wrap ((IntKind.u64.wrap ((IntKind.u64.wrap ((Go.bits .or .u64 (ad) (af))*4294967296))+((ac)/4294967296)))-(IntKind.u64.wrap (ae*aa))))*4294967296))+(Go.bits .and .u64 (ac) 4294967295)))-(IntKind.u64.wrap ((IntKind.u64.wrap (ag-1))*aa)))) ji8)=j_:=⟨_,rfl⟩
            replace H:(some (IntKind.u64.wrap ((IntKind.u64.wrap (ae*4294967296))+(IntKind.u64.wrap (ag-1))),aO))=some (r1,r2):=by first|(rw[az]at H;exact H)|(simp only[az]at H ⊢;exact H)
            have hji30_:((IntKind.u64.wrap ((IntKind.u64.wrap ((IntKind.u64.wrap ((IntKind.u64.wrap ((IntKind.u64.wrap ((IntKind.u64.wrap ((Go.bits .or .u64 (ad) (af))*4294967296))+((ac)/4294967296)))-(IntKind.u64.wrap (ae*aa))))*4294967296))+(Go.bits .and .u64 (ac) 4294967295)))-(IntKind.u64.wrap ((IntKind.u64.wrap (ag-1))*aa))))/2^min ji8.toNat 64)=aO:=az
            have bd:ji8≤64→((IntKind.u64.wrap ((IntKind.u64.wrap ((IntKind.u64.wrap ((IntKind.u64.wrap ((IntKind.u64.wrap ((IntKind.u64.wrap ((Go.bits .or .u64 (ad) (af))*4294967296))+((ac)/4294967296)))-(IntKind.u64.wrap (ae*aa))))*4294967296))+(Go.bits .and .u64 (ac) 4294967295)))-(IntKind.u64.wrap ((IntKind.u64.wrap (ag-1))*aa))))/2^ji8.toNat)=aO:=shr_small az
            simp only[Option.some.injEq,Prod.mk.injEq]at H
            obtain⟨rfl,rfl⟩:=H
            go_wp2
            repeat (go_quiet (fail);try go_wp2)
            go_ret2
            exact⟨by first|rfl|(simp;done)|(simp only[←aH,←hji10,←hji12,←ap,←hji15,←hji17,←az]<;>(first|rfl|simp))|(simp[*];done),Y1⟩
           rw[if_neg c29]at H
           exact absurd H Z1
          rw[if_neg c28]at H
          have aW:decide (4294967296≤(IntKind.u64.wrap (aj+((aa)/4294967296))))=false:=decide_eq_false c28
          clear c28
          have H':=Aside0.mk H
          clear H
          go_wp2
          repeat (go_quiet (fail);try go_wp2)
          go_roundg aV
          case measure=>have:=HJ18.out;have:=HK2.out;have:=aU.out;omega
          case rel=>exact⟨(IntKind.u64.wrap (aj+((aa)/4294967296))),(IntKind.u64.wrap (ag-1)),J9,Y0,H',⟨by have:=HJ18.out;have:=HK2.out;have:=aU.out;omega⟩,Y1⟩
         replace c27:=Bool.eq_false_iff.mpr c27
         subst c27
         have H1:(if 0≤ji8 then(some (IntKind.u64.wrap ((IntKind.u64.wrap (ae*4294967296))+ag),shr .u64 (IntKind.u64.wrap ((IntKind.u64.wrap ((IntKind.u64.wrap ((IntKind.u64.wrap ((IntKind.u64.wrap ((IntKind.u64.wrap ((Go.bits .or .u64 (ad) (af))*4294967296))+((ac)/4294967296)))-(IntKind.u64.wrap (ae*aa))))*4294967296))+(Go.bits .and .u64 (ac) 4294967295)))-(IntKind.u64.wrap (ag*aa)))) ji8)) else(none))=some (r1,r2):=by rw[if_neg (show ¬(false=true) by decide)]at H;exact H
         clear H
         have H:=H1
         clear H1
         by_cases c31:0≤ji8
         ·rw[if_pos c31]at H
          have bh:=eq_true c31
          have bi:decide (0≤ji8)=true:=decide_eq_true c31
          clear c31
          obtain⟨aP,aA⟩:∃j_:Int,(shr .u64 (IntKind.u64.wrap ((IntKind.u64.wrap ((IntKind.u64.wrap ((IntKind.u64.wrap ((IntKind.u64.wrap ((IntKind.u64.wrap ((Go.bits .or .u64 (ad) (af))*4294967296))+((ac)/4294967296)))-(IntKind.u64.wrap (ae*aa))))*4294967296))+(Go.bits .and .u64 (ac) 4294967295)))-(IntKind.u64.wrap (ag*aa)))) ji8)=j_:=⟨_,rfl⟩
          replace H:(some (IntKind.u64.wrap ((IntKind.u64.wrap (ae*4294967296))+ag),aP))=some (r1,r2):=by first|(rw[aA]at H;exact H)|(simp only[aA]at H ⊢;exact H)
          have hji32_:((IntKind.u64.wrap ((IntKind.u64.wrap ((IntKind.u64.wrap ((IntKind.u64.wrap ((IntKind.u64.wrap ((IntKind.u64.wrap ((Go.bits .or .u64 (ad) (af))*4294967296))+((ac)/4294967296)))-(IntKind.u64.wrap (ae*aa))))*4294967296))+(Go.bits .and .u64 (ac) 4294967295)))-(IntKind.u64.wrap (ag*aa))))/2^min ji8.toNat 64)=aP:=aA
          have be:ji8≤64→((IntKind.u64.wrap ((IntKind.u64.wrap ((IntKind.u64.wrap ((IntKind.u64.wrap ((IntKind.u64.wrap ((IntKind.u64.wrap ((Go.bits .or .u64 (ad) (af))*4294967296))+((ac)/4294967296)))-(IntKind.u64.wrap (ae*aa))))*4294967296))+(Go.bits .and .u64 (ac) 4294967295)))-(IntKind.u64.wrap (ag*aa))))/2^ji8.toNat)=aP:=shr_small aA
          simp only[Option.some.injEq,Prod.mk.injEq]at H
          obtain⟨rfl,rfl⟩:=H
          go_wp2
          repeat (go_quiet (fail);try go_wp2)
          go_ret2
          exact⟨by first|rfl|(simp;done)|(simp only[←aH,←hji10,←hji12,←ap,←hji15,←hji17,←aA]<;>(first|rfl|simp))|(simp[*];done),Y1⟩
         rw[if_neg c31]at H
         exact absurd H Z1
  rw[if_neg c14]at H
  exact absurd H Z1
 rw[if_neg c9]at H
 exact absurd H Z1
def whole_amount_byLimb.l0:Nat→List Int→Int→List Int→Int→Int→Option (List Int×Int)
 | 0,_,_,_,_,_=>none
 | k+1,x0,x1,x6,x7,x8=>if x8≥0 then(if 0≤x8 then(if x8<(x0.length:Int) then((bits_Div64.f k x7 (rd x0 x8) x1).bind fun bt154=>(if x8<(x6.length:Int) then(whole_amount_byLimb.l0 k x0 x1 (x6.set (x8:Int).toNat bt154.1) bt154.2 (wrap64 (x8-1))) else(none))) else(none)) else(none)) else((whole_trimmed.f k x6).bind fun t157=>(some (t157,x7)))
def whole_amount_byLimb.f (k:Nat) (l0:List Int) (a1:Int):Option (List Int×Int):=if 0≤(l0.length:Int) then(if((l0.length:Int):Int).toNat≤35184372088832 then(whole_amount_byLimb.l0 k l0 a1 (List.replicate ((l0.length:Int):Int).toNat 0) 0 (wrap64 ((l0.length:Int)-1))) else(none)) else(none)
theorem whole_amount_byLimb.calls (k:Nat) (A0:Option Addr) (c0:Nat) (l0:List Int) (a1:Int) (r1:List Int) (r2:Int) (w:World) (hr0:Kd.C (Kd.int .u64) w A0 l0.length l0) (hc0:l0.length≤c0) (h:whole_amount_byLimb.f k l0 a1=some (r1,r2)) :
  Calls Tryz.prog 87 #[.slice A0 l0.length c0,.int .u64 a1] w fun e w'=>∃v0_:Value,e=.returned (.tuple #[v0_,.int .u64 r2])∧Kd.V (Kd.int .u64) 91 w' w.heap.size (fun k_=>(w.heap.size≤k_)) v0_ r1∧Below w.heap.size w w':=by
 have HR0:=Aside0.mk hr0
 have HC0:=Aside0.mk hc0
 clear hr0 hc0
 have HB:=Aside0.mk (Below.refl w.heap.size w)
 have H:(if 0≤(l0.length:Int) then(if((l0.length:Int):Int).toNat≤35184372088832 then(whole_amount_byLimb.l0 k l0 a1 (List.replicate ((l0.length:Int):Int).toNat 0) 0 (wrap64 ((l0.length:Int)-1))) else(none)) else(none))=some (r1,r2):=h
 clear h
 by_cases c3:0≤(l0.length:Int)
 ·rw [if_pos c3]at H
  have aD:=eq_true c3
  have aE:decide (0≤(l0.length:Int))=true:=decide_eq_true c3
  clear c3
  by_cases c4:((l0.length:Int):Int).toNat≤35184372088832
  ·rw [if_pos c4]at H
   have aF:=eq_true c4
   have aG:decide (((l0.length:Int):Int).toNat≤35184372088832)=true:=decide_eq_true c4
   clear c4
   obtain⟨ao,ac⟩:∃y_:List Int,y_=(List.replicate ((l0.length:Int):Int).toNat 0):=⟨_,rfl⟩
   replace H:(whole_amount_byLimb.l0 k l0 a1 ao 0 (wrap64 ((l0.length:Int)-1)))=some (r1,r2):=by first|(rw[ac];with_reducible exact H)|(have H2_:=(Option.bind_some _ _).symm.trans H;rw[ac];with_reducible exact H2_)|(have H2_:=(Option.bind_some _ _).symm.trans H;with_reducible exact H2_)|with_reducible exact H|(rw[ac];exact H)|exact H
   have an:=Aside0.mk ac
   clear ac
   have H':=Aside0.mk H
   clear H
   go_enter Tryz.func87,Tryz.ntmps87
   go_wp2_with (first|(refine gd 11 rfl ?_;refine Kd.R_make (Kd.int .u64) _ 91 rfl (N:=11) rfl 22 _ _ rfl (l0.length:Int) rfl rfl Tryz.underlying22 (.int .u64 0) 8 info91 rfl J0 Z0 0 (ok:=fun _=>True) (okp:=fun _=>True) rfl (fun _ hk=>hk) trivial (of_decide_eq_true ‹_›) (Nat.le_trans (Nat.mul_le_mul_right _ (of_decide_eq_true ‹_›:(l0.length:Int).toNat≤35184372088832)) Z0) (Below.refl _ _) (Nat.le_refl _) ?_;intro ap w5 ho6 hb hg_ hnew_;clear hg_ hnew_;(first|rw[←an.out]at ho6|(simp only[Int.reduceToNat]at ho6;rw[←an.out]at ho6));have aA:=Aside0.mk (Kd.R_lower (Kd.R_newM (M:=fun k_=>(w.heap.size≤k_)) ho6 (below_size (khu HB.out)) (fun k_ h_=>h_)) (below_size (khu HB.out)));replace HB:=kbs HB hb;clear hb ho6))
   go_loopg [7,8] k (fun kq v7 v8 w'=>∃(ab:List Int) (ae:Int) (aa:Int),v7=.int .u64 ae∧v8=.int .i64 aa∧Aside0 (whole_amount_byLimb.l0 kq l0 a1 ab ae aa=some (r1,r2))∧Aside0 (kq≤k)∧Aside0 (Kd.R (Kd.int .u64) 91 w' w.heap.size (fun k_=>(w.heap.size≤k_)) ap ab)∧Aside0 (Below w.heap.size w w'))
   case atStart=>exact⟨(ao),(0),(wrap64 ((l0.length:Int)-1)),Y0,Y0,H',⟨Nat.le_refl _⟩,⟨by(with_reducible repeat (first|apply Kd.R_alloc|apply Kd.R_drewN|apply Kd.R_drew));exact Kd.R_mono aA.out (fun _ hk=>hk.1)⟩,⟨khu HB.out⟩⟩
   case round=>
    clear H'
    try clear p2
    try clear c3
    try clear aD
    try clear aE
    try clear c4
    try clear aF
    try clear aG
    try clear p6
    obtain⟨ab,ae,aa,rfl,rfl,HA,HK1,HO_6,HB⟩:=hrel
    cases gk with
    | zero=>exact absurd HA.out (by simp[whole_amount_byLimb.l0])
    | succ k1=>
     have H:=HA.out
     clear HA
     simp only[whole_amount_byLimb.l0]at H
     by_cases c7:aa≥0
     ·rw [if_pos c7]at H
      have aH:decide (0≤aa)=true:=decide_eq_true c7
      clear c7
      by_cases c8:0≤aa
      ·rw[if_pos c8]at H
       have aR:decide (0≤aa)=true:=decide_eq_true c8
       clear c8
       by_cases c9:aa<(l0.length:Int)
       ·rw[if_pos c9]at H
        have aS:decide (aa<(l0.length:Int))=true:=decide_eq_true c9
        clear c9
        replace H:=Option.bind_eq_some_iff.mp H
        obtain⟨⟨ag,ah⟩,aq,H⟩:=H
        replace H:(if aa<(ab.length:Int) then(whole_amount_byLimb.l0 k1 l0 a1 (ab.set (aa:Int).toNat ag) ah (wrap64 (aa-1))) else(none))=some (r1,r2):=H
        have A10:=Aside0.mk aq
        clear aq
        by_cases c11:aa<(ab.length:Int)
        ·rw[if_pos c11]at H
         have aP:decide (aa<(ab.length:Int))=true:=decide_eq_true c11
         clear c11
         obtain⟨ai,ad⟩:∃y_:List Int,y_=(ab.set (aa:Int).toNat ag):=⟨_,rfl⟩
         replace H:(whole_amount_byLimb.l0 k1 l0 a1 ai ah (wrap64 (aa-1)))=some (r1,r2):=by first|(rw[ad];with_reducible exact H)|(have H2_:=(Option.bind_some _ _).symm.trans H;rw[ad];with_reducible exact H2_)|(have H2_:=(Option.bind_some _ _).symm.trans H;with_reducible exact H2_)|with_reducible exact H|(rw[ad];exact H)|exact H
         have aB:=Aside0.mk ad
         clear ad
         have H':=Aside0.mk H
         clear H
         have aj:0≤(aa:Int):=of_decide_eq_true ‹_›
         have ak:aa<(l0.length:Int):=of_decide_eq_true ‹_›
         obtain⟨aQ,aI,af⟩:=Kd.at_int HR0.out aa aj ak
         cases aI
         replace af:=(HB.out.cell (World.block_lt_of_cell? w _ af)).trans af
         replace aj:=eq_true aj
         replace ak:=eq_true ak
         go_wp2_with (first|((with_reducible refine gate_callee (f:=159) rfl ?_);refine kgl (some 28) rfl rfl Tryz.func159 #[.int .u64 ae,.int .u64 (rd l0 aa),.int .u64 a1] rfl ?_;(with_reducible refine(bits_Div64.calls k1 ae (rd l0 aa) a1 ag ah _ A10.out).mono ?_);rintro e w' ⟨rfl,⟨nd,rfl⟩⟩;refine⟨_,rfl,?_⟩;(try(rw[drewN_self wr];generalize hq_:World.drewN wr _=wr;have n0_:Aside0 (Kd.R (Kd.int .u64) 91 wr w.heap.size (fun k_=>(w.heap.size≤k_)) ap ab):=⟨by rw[←hq_];exact(kru HO_6.out)⟩;have n1_:Aside0 (Below w.heap.size w wr):=⟨U9⟩;clear HO_6 HB hq_;have HO_6:=n0_;have HB:=n1_;clear n0_ n1_));have p12:0≤(aa:Int):=of_decide_eq_true ‹_›;have q12:(aa:Int)<((ab.length:Int):Int):=of_decide_eq_true ‹_›;obtain⟨al,aJ,ar,au,aK,aT,av⟩:=Kd.R_form HO_6.out Z0;(first|cases ar|(injection ar with ea_ en_ ec_;(first|subst ea_|(injection ea_ with ea_;subst ea_));subst ec_;clear en_));have aL:=Aside0.mk au;have aU:=Aside0.mk av;clear au aK av;obtain⟨aN,aO⟩:=Kd.R_celln 0 HO_6.out (aa:Int) p12 q12;replace p12:=eq_true p12;replace q12:=eq_true q12;obtain⟨hy13_,hz13_⟩:=Kd.R_celln 0 HO_6.out (aa:Int) (of_decide_eq_true ‹_›) (of_decide_eq_true ‹_›);have am:=Kd.R_putg HO_6.out (aa:Int) ag)|((with_reducible refine gate_store (t:=91) (p:=31) rfl ?_);refine store_event (t:=91) (p:=31) (v:=?vo_w14) (w1:=(wr.setCell ⟨al,(aa:Int).toNat,none⟩ (.int .u64 ag))) ?hg ?ho ?hn ?hr ?_;(case ho=>rfl);(case hg=>rfl);(case hn=>rfl);(case hr=>first|(go_simp;done)|(go_simp;rfl));intro w14 hw;have hg:wr.grownBy w14 (some al):=(by rw[hw];exact am.2);have hp_:Kd.R (Kd.int .u64) 91 w14 w.heap.size (fun k_=>(w.heap.size≤k_)) (.slice (some ⟨al,0,none⟩) ab.length aJ) ai:=(by rw[hw,aB.out];exact am.1);clear am;replace HO_6:=Aside0.mk (hp_);replace HB:=Aside0.mk ((by rw[hw];exact below_set (HB.out) aL.out:Below w.heap.size w w14));clear hg hw hp_))
         go_roundg k1
         case measure=>have:=HK1.out;omega
         case rel=>exact⟨(ai),(ah),(wrap64 (aa-1)),Y0,Y0,H',⟨Y3⟩,⟨kru HO_6.out⟩,⟨khu HB.out⟩⟩
        rw[if_neg c11]at H
        exact absurd H Z1
       rw[if_neg c9]at H
       exact absurd H Z1
      rw[if_neg c8]at H
      exact absurd H Z1
     rw[if_neg c7]at H
     have aH:decide (0≤aa)=false:=decide_eq_false c7
     clear c7
     replace H:=Option.bind_eq_some_iff.mp H
     obtain⟨aw,ax,H⟩:=H
     replace H:(some (aw,ae))=some (r1,r2):=H
     have A15:=Aside0.mk ax
     clear ax
     simp only[Option.some.injEq,Prod.mk.injEq]at H
     obtain⟨rfl,rfl⟩:=H
     obtain⟨ay,az,aM⟩:=Kd.R_slice HO_6.out
     subst aM
     go_wp2_with (first|((with_reducible refine gate_callee (f:=79) rfl ?_);refine kgl (some 33) rfl rfl Tryz.func79 #[.slice ay ab.length az] rfl ?_;(with_reducible refine(whole_trimmed.calls k1 (fun k_=>some k_=(.slice ay ab.length az:Value).ownBlock) _ _ ab aw _ ?side1 A15.out).mono ?_);(case side1=>exact Kd.R_V (Kd.R_tight rfl (HO_6.out)));rintro e w17 ⟨aV,rfl,ho0,hb⟩;refine⟨_,rfl,?_⟩;have aC:=Aside0.mk (Kd.V_lower (Kd.V_mono (ok':=fun k_=>(w.heap.size≤k_)) ho0 (fun k_ hk_=>Or.elim hk_ (fun hs_=>((HO_6.out).1 k_ hs_.symm)) (fun hn_=>(Nat.le_trans (below_size (khu HB.out)) hn_)))) (below_size (khu HB.out)));replace HO_6:=krb HO_6 hb;replace HB:=kbs HB hb;(try clear hb);(try clear hb2);(try clear hk);(try clear hi);(try clear ho0)))
     go_ret2
     exact⟨_,B0,kvu aC.out,khu HB.out⟩
  rw[if_neg c4]at H
  exact absurd H Z1
 rw[if_neg c3]at H
 exact absurd H Z1
def slices_Reverse_string_string.l0:Nat→List ByteArray→Int→Int→Option (List ByteArray)
 | 0,_,_,_=>none
 | k+1,x0,x2,x3=>if x2<x3 then(if 0≤x3 then(if x3<(x0.length:Int) then(if 0≤x2 then(if x2<(x0.length:Int) then(slices_Reverse_string_string.l0 k ((x0.set (x2:Int).toNat (rdOf ByteArray.empty x0 x3)).set (x3:Int).toNat (rdOf ByteArray.empty x0 x2)) (wrap64 (x2+1)) (wrap64 (x3-1))) else(none)) else(none)) else(none)) else(none)) else(some x0)
def slices_Reverse_string_string.f (k:Nat) (l0:List ByteArray):Option (List ByteArray):=slices_Reverse_string_string.l0 k l0 0 (wrap64 ((l0.length:Int)-1))
def slices_Reverse_string_string.T3:Bool×List (List Nat×List Nat):=(true,[([],[]),([],[]),([],[]),([],[]),([],[]),([],[]),([4,5],[4,5]),([6],[6]),([],[]),([],[]),([8,9],[8,9]),([10],[10]),([0,1,0,1,4,5,6,7,11],[0,1]),([12,7,0,1,4,5,6,7,11],[7,12]),([2,3,0,1,2,3,4,5,6,7,8,9,10,11,12,13],[2,3]),([14,11,13,0,1,2,3,4,5,6,7,8,9,10,11,12,13],[11,14])])
def slices_Reverse_string_string.B3:List Nat:=[0,0,0,0,0,0,48,112,0,0,768,1792,4083,8179,16383,32767]
theorem slices_Reverse_string_string.tab3:rtab .any (opsOf Tryz.f89 3)=slices_Reverse_string_string.T3:=by kernel_rfl
theorem slices_Reverse_string_string.bits3:waitsOk slices_Reverse_string_string.T3.2 slices_Reverse_string_string.B3=true:=by kernel_rfl
theorem slices_Reverse_string_string.calls (k:Nat) (P0_:Nat→Prop) (u9000_:Value) (l0:List ByteArray) (r:List ByteArray) (w0 w:World) (hB:Below w0.heap.size w0 w) (ho0:Kd.R Kd.string 9 w w0.heap.size P0_ u9000_ l0) (h:slices_Reverse_string_string.f k l0=some r) :
  Calls Tryz.prog 89 #[u9000_] w fun e w'=>e=.returned (.tuple #[])∧Kd.R Kd.string 9 w' w0.heap.size (fun k_=>(P0_ k_∨w.heap.size≤k_)) u9000_ r∧Below w0.heap.size w0 w'∧Kept w w' (fun k_=>P0_ k_):=by
 have HO0:=Aside0.mk (show Kd.R Kd.string 9 w w0.heap.size (fun k_=>(P0_ k_∨w.heap.size≤k_)) u9000_ l0 from Kd.R_mono ho0 (fun k_ hk=>(.inl hk)))
 have HK:=Aside0.mk (Kept.refl w (fun k_=>P0_ k_))
 have HW0:=Aside0.mk hB.size
 have HB:=Aside0.mk hB
 clear hB
 have H:(slices_Reverse_string_string.l0 k l0 0 (wrap64 ((l0.length:Int)-1)))=some r:=h
 clear h
 have H':=Aside0.mk H
 clear H
 obtain⟨Ao2,co2,eo2⟩:=Kd.R_slice HO0.out
 subst eo2
 go_enter Tryz.func89,Tryz.ntmps89
 go_wp2
 go_loopg [2,3] k (fun kq v2 v3 w'=>∃(ac:List ByteArray) (aa:Int) (ab:Int),v2=.int .i64 aa∧v3=.int .i64 ab∧Aside0 (slices_Reverse_string_string.l0 kq ac aa ab=some r)∧Aside0 (kq≤k)∧Aside0 (Kd.R Kd.string 9 w' w0.heap.size (fun k_=>(P0_ k_∨w.heap.size≤k_)) (.slice Ao2 l0.length co2) ac)∧Aside0 (Kept w w' (fun k_=>P0_ k_))∧Aside0 (Below w0.heap.size w0 w'))
 case atStart=>exact⟨(l0),(0),(wrap64 ((l0.length:Int)-1)),Y0,Y0,H',⟨Nat.le_refl _⟩,⟨kru HO0.out⟩,⟨Z8⟩,⟨khu HB.out⟩⟩
 case round=>
  clear H'
  try clear p2
  obtain⟨ac,aa,ab,rfl,rfl,HA,HK1,ad,HK,HB⟩:=hrel
  have ae:=(Kd.R_reads' ad.out).1
  rw[ae]at ad
  (try simp only[ae])
  cases gk with
  | zero=>exact absurd HA.out (by simp[slices_Reverse_string_string.l0])
  | succ k1=>
   have H:=HA.out
   clear HA
   simp only[slices_Reverse_string_string.l0]at H
   by_cases c3:aa<ab
   ·rw [if_pos c3]at H
    have aE:decide (aa<ab)=true:=decide_eq_true c3
    clear c3
    by_cases c4:0≤ab
    ·rw [if_pos c4]at H
     have aH:decide (0≤ab)=true:=decide_eq_true c4
     clear c4
     by_cases c5:ab<(ac.length:Int)
     ·rw [if_pos c5]at H
      have aI:decide (ab<(ac.length:Int))=true:=decide_eq_true c5
      clear c5
      by_cases c6:0≤aa
      ·rw[if_pos c6]at H
       have aJ:decide (0≤aa)=true:=decide_eq_true c6
       clear c6
       by_cases c7:aa<(ac.length:Int)
       ·rw[if_pos c7]at H
        have aK:decide (aa<(ac.length:Int))=true:=decide_eq_true c7
        clear c7
        obtain⟨ar,af⟩:∃y_:List ByteArray,y_=(ac.set (aa:Int).toNat (rdOf ByteArray.empty ac ab)):=⟨_,rfl⟩
        replace H:(slices_Reverse_string_string.l0 k1 (ar.set (ab:Int).toNat (rdOf ByteArray.empty ac aa)) (wrap64 (aa+1)) (wrap64 (ab-1)))=some r:=by first|(rw[af];with_reducible exact H)|(have H2_:=(Option.bind_some _ _).symm.trans H;rw[af];with_reducible exact H2_)|(have H2_:=(Option.bind_some _ _).symm.trans H;with_reducible exact H2_)|with_reducible exact H|(rw[af];exact H)|exact H
        have aw:=Aside0.mk af
        clear af
        obtain⟨au,ag⟩:∃y_:List ByteArray,y_=(ar.set (ab:Int).toNat (rdOf ByteArray.empty ac aa)):=⟨_,rfl⟩
        replace H:(slices_Reverse_string_string.l0 k1 au (wrap64 (aa+1)) (wrap64 (ab-1)))=some r:=by first|(rw[ag];with_reducible exact H)|(have H2_:=(Option.bind_some _ _).symm.trans H;rw[ag];with_reducible exact H2_)|(have H2_:=(Option.bind_some _ _).symm.trans H;with_reducible exact H2_)|with_reducible exact H|(rw[ag];exact H)|exact H
        have ax:=Aside0.mk ag
        clear ag
        have H':=Aside0.mk H
        clear H
        try go_wp2
        replace ad:=Aside0.mk (Kd.R_drew ad.out);replace HK:=Aside0.mk (Kept.drew HK.out);replace HB:=Aside0.mk (below_drew1 HB.out)
        have aj:0≤(ab:Int):=of_decide_eq_true ‹_›
        have ak:ab<(ac.length:Int):=of_decide_eq_true ‹_›
        obtain⟨ay,aF,ah⟩:=Kd.at_string (Kd.R_reads' ad.out).2.2 ab aj ak
        cases aF
        replace aj:=eq_true aj
        replace ak:=eq_true ak
        have al:0≤(aa:Int):=of_decide_eq_true ‹_›
        have am:aa<(ac.length:Int):=of_decide_eq_true ‹_›
        obtain⟨az,aG,ai⟩:=Kd.at_string (Kd.R_reads' ad.out).2.2 aa al am
        obtain rfl:ay=az:=(by injection aG)
        replace al:=eq_true al
        replace am:=eq_true am
        have p8:0≤(aa:Int):=of_decide_eq_true ‹_›
        have q8:(aa:Int)<((ac.length:Int):Int):=of_decide_eq_true ‹_›
        obtain⟨go8,co8,eo8,gb8,gl8,cl8,HG8⟩:=Kd.R_form ad.out Z0
        (first|cases eo8|(injection eo8 with ea_ en_ ec_;(first|subst ea_|(injection ea_ with ea_;subst ea_));subst ec_;clear en_))
        have GB8:=Aside0.mk gb8
        have GG8:=Aside0.mk HG8
        clear gb8 gl8 HG8
        have aq:=Aside0.mk (show(P0_ go8∨w.heap.size≤go8) from(ad.out.1 _ rfl))
        (first|simp only[add_plain]at ah|skip)
        (first|simp only[add_plain]at ai|skip)
        obtain⟨aA,aB⟩:=Kd.R_celln (⟨#[]⟩:ByteArray) ad.out (aa:Int) p8 q8
        replace p8:=eq_true p8
        replace q8:=eq_true q8
        have an:=Kd.R_putn ad.out (aa:Int) (rdOf ByteArray.empty ac ab)
        rw[←aw.out]at an
        have ao:=Aside0.mk an
        clear an
        have p9:0≤(ab:Int):=of_decide_eq_true ‹_›
        have q9:(ab:Int)<((ac.length:Int):Int):=of_decide_eq_true ‹_›
        obtain⟨aC,aD⟩:=Kd.R_celln (⟨#[]⟩:ByteArray) ao.out (ab:Int) p9 q9
        replace p9:=eq_true p9
        replace q9:=eq_true q9
        have ap:=Kd.R_putn ao.out (ab:Int) (rdOf ByteArray.empty ac aa)
        rw[←ax.out]at ap
        have av:=Aside0.mk ap
        clear ap
        refine start_ (n:=16) (S:=fun w'=>w'.cell? ⟨go8,(ab).toNat,none⟩=some (.string (rdOf ByteArray.empty ac ab))∧w'.cell? ⟨go8,(aa).toNat,none⟩=some (.string (rdOf ByteArray.empty ac aa))) (ds:=[13,15]) (bm_ 16 0) X0 rfl rfl ⟨ah,ai⟩ (fun hHeld=>?_);refine with_tabW slices_Reverse_string_string.tab3 slices_Reverse_string_string.bits3 (fun HT_ HW_=>?_)
        generalize wr.drew=w10 at ad HK HB GG8 ao av aB aD ah ai aA aC hHeld ⊢
        refine pu_ 0 14 ?_ (bm_ 16 1) rfl rfl (any_of HT_.out X0) (fun _ _ _ h=>h) F1 ?_ ?_ ?_ ?_
        rotate_left
        ·intro w'
         go_simp
         with_reducible rfl
        rotate_left
        ·simp only[Act.put,kss,i64_w,i32_w]
         rfl
        refine pu_ 1 15 ?_ (bm_ 16 3) rfl rfl (any_of HT_.out X0) (fun _ _ _ h=>h) F1 ?_ ?_ ?_ ?_
        rotate_left
        ·intro w'
         go_simp
         with_reducible rfl
        rotate_left
        ·simp only[Act.put,kss,i64_w,i32_w]
         rfl
        refine pu_ 2 16 ?_ (bm_ 16 7) rfl rfl (any_of HT_.out X0) (fun _ _ _ h=>h) F1 ?_ ?_ ?_ ?_
        rotate_left
        ·intro w'
         go_simp
         with_reducible rfl
        rotate_left
        ·simp only[Act.put,kss,i64_w,i32_w]
         rfl
        refine pu_ 3 17 ?_ (bm_ 16 15) rfl rfl (any_of HT_.out X0) (fun _ _ _ h=>h) F1 ?_ ?_ ?_ ?_
        rotate_left
        ·intro w'
         go_simp
         with_reducible rfl
        rotate_left
        ·simp only[Act.put,kss,i64_w,i32_w]
         rfl
        refine pu_ 4 18 ?_ (bm_ 16 31) rfl rfl (any_of HT_.out X0) (fun _ _ _ h=>h) F1 ?_ ?_ ?_ ?_
        rotate_left
        ·intro w'
         go_simp
         with_reducible rfl
        rotate_left
        ·simp only[Act.put,kss,i64_w,i32_w]
         rfl
        refine pu_ 5 19 ?_ (bm_ 16 63) rfl rfl (any_of HT_.out X0) (fun _ _ _ h=>h) F1 ?_ ?_ ?_ ?_
        rotate_left
        ·intro w'
         go_simp
         with_reducible rfl
        rotate_left
        ·simp only[Act.put,kss,i64_w,i32_w]
         rfl
        refine pu_ 6 20 ?_ (bm_ 16 127) rfl rfl (any_of HT_.out X0) (fun _ _ _ h=>h) F1 ?_ ?_ ?_ ?_
        rotate_left
        ·intro w'
         go_simp
         with_reducible rfl
        rotate_left
        ·simp only[Act.put,kss,i64_w,i32_w]
         rfl
        refine pu_ 8 22 ?_ (bm_ 16 383) rfl rfl (any_of HT_.out X0) (fun _ _ _ h=>h) F1 ?_ ?_ ?_ ?_
        rotate_left
        ·intro w'
         go_simp
         with_reducible rfl
        rotate_left
        ·simp only[Act.put,kss,i64_w,i32_w]
         rfl
        refine pu_ 9 23 ?_ (bm_ 16 895) rfl rfl (any_of HT_.out X0) (fun _ _ _ h=>h) F1 ?_ ?_ ?_ ?_
        rotate_left
        ·intro w'
         go_simp
         with_reducible rfl
        rotate_left
        ·simp only[Act.put,kss,i64_w,i32_w]
         rfl
        refine pu_ 10 24 ?_ (bm_ 16 1919) rfl rfl (any_of HT_.out X0) (fun _ _ _ h=>h) F1 ?_ ?_ ?_ ?_
        rotate_left
        ·intro w'
         go_simp
         with_reducible rfl
        rotate_left
        ·simp only[Act.put,kss,i64_w,i32_w]
         rfl
        refine tk_ 7 21 ?_ (bm_ 16 2047) rfl rfl (take_ofW HT_.out HW_.out X0) (fun _ _ _ h=>h) F1 ?_ hHeld ?_ ?_ ?_
        rotate_left
        ·rintro w' ⟨s0,s1⟩
         go_simp
         with_reducible rfl
        rotate_left
        ·simp only[Act.put,kss,i64_w,i32_w]
         rfl
        refine tk_ 11 25 ?_ (bm_ 16 4095) rfl rfl (take_ofW HT_.out HW_.out X0) (fun _ _ _ h=>h) F1 ?_ hHeld ?_ ?_ ?_
        rotate_left
        ·rintro w' ⟨s0,s1⟩
         go_simp
         with_reducible rfl
        rotate_left
        ·simp only[Act.put,kss,i64_w,i32_w]
         rfl
        refine pu_ 12 26 ?_ (bm_ 16 8191) rfl rfl (any_of HT_.out X0) (fun _ _ _ h=>h) F1 ?_ ?_ ?_ ?_
        rotate_left
        ·intro w'
         go_simp
         with_reducible rfl
        rotate_left
        ·simp only[Act.put,kss,i64_w,i32_w]
         rfl
        refine last_ (i:=13) (N:=none) (bm_ 16 16383) rfl rfl (one_of HT_.out X0) J0 (fun K hK=>?_)
        refine skip_ (w1:=?_) F1 rfl ?_ ?_
        rotate_left
        ·go_simp
         rfl
        refine hK.out _ _ ?_
        clear hK K
        refine pu_ 14 27 ?_ (bm_ 16 32767) rfl rfl (any_of HT_.out X0) (fun _ _ _ h=>h) F1 ?_ ?_ ?_ ?_
        rotate_left
        ·intro w'
         go_simp
         with_reducible rfl
        rotate_left
        ·simp only[Act.put,kss,i64_w,i32_w]
         rfl
        refine last_ (i:=15) (N:=none) (bm_ 16 65535) rfl rfl (one_of HT_.out X0) J0 (fun K hK=>?_)
        refine skip_ (w1:=?_) F1 rfl ?_ ?_
        rotate_left
        ·go_simp
         rfl
        refine hK.out _ _ ?_
        clear hK K
        refine done_ (done_of HT_.out X0) ?_
        try go_wp2
        (try simp only[←ae])
        go_roundg k1
        case measure=>have:=HK1.out;omega
        case rel=>exact⟨(au),(wrap64 (aa+1)),(wrap64 (ab-1)),Y0,Y0,H',⟨Y3⟩,⟨by(try simp only[ae]);(with_reducible repeat (first|apply Kd.R_alloc|apply Kd.R_drewN|apply Kd.R_drew));exact av.out⟩,⟨by repeat (first|(with_reducible first|exact HK.out|apply Kept.alloc|apply Kept.drewN|apply Kept.drew|refine Kept.setCell ?_ aq.out _|refine Kept.setCell ?_ aq.out _)|exact HK.out)⟩,⟨by repeat (first|(with_reducible first|exact HB.out|apply below_alloc|apply pw_below_drewN|apply below_drew1|refine below_set ?_ GB8.out|refine below_set ?_ GB8.out)|exact HB.out)⟩⟩
       rw[if_neg c7]at H
       exact absurd H Z1
      rw[if_neg c6]at H
      exact absurd H Z1
     rw[if_neg c5]at H
     exact absurd H Z1
    rw[if_neg c4]at H
    exact absurd H Z1
   rw[if_neg c3]at H
   have aE:decide (aa<ab)=false:=decide_eq_false c3
   clear c3
   obtain rfl:=Option.some.inj H
   go_wp2
   first|go_end0|((try simp only[Exit.inBlock,Exit.then]);refine bodyPost_ret (results_none rfl _ _ _) rfl ?_)
   exact⟨B0,(by first|exact(kru ad.out)|(simp only[ae];exact(kru ad.out))),khu HB.out,Z8⟩
def whole_Print.l0:Nat→List ByteArray→List Int→List Int→Bool→Option (ByteArray×Int)
 | 0,_,_,_,_=>none
 | k+1,x5,x6,x189000,x189001=>(whole_amount_null.f x6).bind fun t190=>(if t190=true then(if(x5.length:Int)=0 then(none) else(if x189001=true then(if x5.length<8796093022208 then((slices_Reverse_string_string.f k (x5++[(⟨#[45]⟩:ByteArray)])).bind fun t203=>((strings_Join.f t203 (⟨#[]⟩:ByteArray)).bind fun t204=>(some (t204,0)))) else(none)) else((slices_Reverse_string_string.f k x5).bind fun t205=>((strings_Join.f t205 (⟨#[]⟩:ByteArray)).bind fun t206=>(some (t206,0)))))) else((whole_amount_byLimb.f k x6 1000000000000000000).bind fun bt191=>((strconv_FormatUint.f bt191.2 10).bind fun t195=>((whole_amount_null.f bt191.1).bind fun t196=>(if t196=true then(if x5.length<8796093022208 then(whole_Print.l0 k (x5++[t195]) bt191.1 x189000 x189001) else(none)) else(none))))))
def whole_Print.f (k:Nat) (a0_0:Bool) (l0_1:List Int):Option (ByteArray×Int):=(whole_of.f k a0_0 l0_1).bind fun bt184=>((whole_number_long.f bt184.1 bt184.2).bind fun t189=>(if t189=true then(none) else(whole_Print.l0 k ([]:List ByteArray) bt184.1 bt184.1 bt184.2)))
theorem whole_Print.calls (k:Nat) (an:Bool) (ar:Option Addr) (au:Nat) (ag:List Int) (r1:ByteArray) (r2:Int) (w:World) (aK:Kd.C (Kd.int .u64) w ar ag.length ag) (aM:ag.length≤au) (h:whole_Print.f k an ag=some (r1,r2)) :
  Calls Tryz.prog 31 #[.agg #[.bool an,.slice ar ag.length au]] w fun e w'=>e=.returned (.tuple #[.string r1,.int .i64 r2])∧Below w.heap.size w w':=by
 have ce:=Tryz.underlying25
 have cf:=Tryz.underlying86
 have bq:=Aside0.mk aK
 have br:=Aside0.mk aM
 clear aK aM
 have HB:=Aside0.mk (Below.refl w.heap.size w)
 have H:((whole_of.f k an ag).bind fun aC=>((whole_number_long.f aC.1 aC.2).bind fun aG=>(if aG=true then(none) else(whole_Print.l0 k ([]:List ByteArray) aC.1 aC.1 aC.2))))=some (r1,r2):=h
 clear h
 replace H:=Option.bind_eq_some_iff.mp H
 obtain⟨⟨t184,t187⟩,A20,H⟩:=H
 replace H:((whole_number_long.f t184 t187).bind fun aG=>(if aG=true then(none) else(whole_Print.l0 k ([]:List ByteArray) t184 t184 t187)))=some (r1,r2):=H
 have A2:=Aside0.mk A20
 clear A20
 replace H:=Option.bind_eq_some_iff.mp H
 obtain⟨aG,A30,H⟩:=H
 replace H:(if aG=true then(none) else(whole_Print.l0 k ([]:List ByteArray) t184 t184 t187))=some (r1,r2):=H
 have A3:=Aside0.mk A30
 clear A30
 by_cases c4:aG=true
 ·subst c4
  have H1:(none)=some (r1,r2):=by rw[if_pos rfl]at H;exact H
  clear H
  have H:=H1
  clear H1
  exact absurd H Z1
 replace c4:=Bool.eq_false_iff.mpr c4
 subst c4
 have H1:(whole_Print.l0 k ([]:List ByteArray) t184 t184 t187)=some (r1,r2):=by rw[if_neg (show ¬(false=true) by decide)]at H;exact H
 clear H
 have H:=H1
 clear H1
 have H':=Aside0.mk H
 clear H
 go_enter Tryz.func31,Tryz.ntmps31
 go_wp2_with (first|(refine gd 1 rfl ?_;refine kbe 1 #[.bool an,.slice ar ag.length au] 25 ?_;intro ad hg w5 hbox hb;have ac:=Aside0.mk (hbox);have bu:=kbz hg HB;have av:=kbz hg HB;replace HB:=kbs HB hb;clear hb hbox hg;have aY:w5.cell? ⟨ad,0,none⟩=some (.bool an):=(blk_cell ac.out 0).trans rfl;have aZ:w5.cell? ⟨ad,1,none⟩=some (.slice ar ag.length au):=(blk_cell ac.out 1).trans rfl;have bb:=blk_frozen ac.out 0;have bc:=blk_frozen ac.out 1)|((with_reducible refine gate_callee (f:=46) rfl ?_);refine kgl (some 11) rfl rfl Tryz.func46 #[.agg #[.bool an,.slice ar ag.length au]] rfl ?_;(with_reducible refine(whole_of.calls k an (fun k_=>k_<w.heap.size) _ _ ag t184 t187 _ ?side1 A2.out).mono ?_);(case side1=>exact Kd.V_mk br.out (Kd.F_below (Kd.C_F (Kd.heap_int .u64) bq.out) (khu HB.out)));rintro e w7 ⟨cg,rfl,ho0,hb⟩;refine⟨_,rfl,?_⟩;have HO186:=Aside0.mk (Kd.V_lower (Kd.V_mono (ok':=fun k_=>k_≠ad) ho0 (fun k_ hk_=>koe bu ac hk_)) (below_size (khu HB.out)));replace ac:=kbb ac hb;replace HB:=kbs HB hb;(try clear hb);(try clear hb2);(try clear hk);(try clear hi);(try clear ho0))|(refine gd 4 rfl ?_;refine kbe 4 #[.slice none 0 0,.bool false] 86 ?_;intro gb188 hg w8 hbox hb;replace HO186:=Aside0.mk (Kd.V_below (Kd.V_elderB (kvu HO186.out) gb188 (Nat.le_of_eq hg.symm)) hb);have aa:=Aside0.mk (hbox);have bU:=kbz hg HB;have aw:=kbz hg HB;replace HB:=kbs HB hb;have ak:=knl hg ac;have az:=kng hg ac;replace ac:=kbb ac hb;clear hb hbox hg;obtain⟨Ao9,co9,eo9⟩:=Kd.V_slice HO186.out;subst eo9;have bV:=az.out;have bW:=ak.out;have aN:w8.cell? ⟨gb188,0,none⟩=some (.slice none 0 0):=(blk_cell aa.out 0).trans rfl;have aQ:w8.cell? ⟨gb188,1,none⟩=some (.bool false):=(blk_cell aa.out 1).trans rfl;have aR:=blk_frozen aa.out 0;have aT:=blk_frozen aa.out 1)|((with_reducible refine gate_callee (f:=85) rfl ?_);refine kgl (some 13) rfl rfl Tryz.func85 #[.agg #[.slice Ao9 t184.length co9,.bool t187]] rfl ?_;(with_reducible refine(whole_number_long.calls _ _ t184 t187 false _ ?side1 ?side2 A3.out).mono ?_);(case side1=>refine(Kd.V_reads' (e:=91) (base:=w.heap.size) (ok:=fun k_=>(k_≠ad∧k_≠gb188)) (n:=t184.length) (c:=co9) ?_).2.2;exact U5);(case side2=>exact(Kd.V_reads' HO186.out).2.1);rintro e w12 ⟨rfl,hb⟩;refine⟨_,rfl,?_⟩;replace HO186:=Aside0.mk (Kd.V_below U5 hb);replace ac:=Aside0.mk (blk_below (g:=ad) (o:=.cells #[.bool an,.slice ar ag.length au] 25 (0,0)) (kfa ak (kfa ak (kbu ac.out))) hb);replace aa:=Aside0.mk (blk_below (g:=gb188) (o:=.cells #[.slice Ao9 t184.length co9,.bool t187] 86 (0,0)) (kpu #[.slice Ao9 t184.length co9,.bool false] 1 (kpu #[.slice none 0 0,.bool false] 0 (kbu aa.out))) hb);replace HB:=Aside0.mk (below_step (by repeat (first|(with_reducible first|exact HB.out|apply below_alloc|apply pw_below_drewN|apply below_drew1|refine below_set ?_ av.out|refine below_set ?_ aw.out)|exact HB.out)) hb);(try clear hb);(try clear hb2);(try clear hk);(try clear hi);have aU:w12.cell? ⟨gb188,0,none⟩=some (.slice Ao9 t184.length co9):=(blk_cell aa.out 0).trans rfl;have aV:w12.cell? ⟨gb188,1,none⟩=some (.bool t187):=(blk_cell aa.out 1).trans rfl;have aW:=blk_frozen aa.out 0;have aX:=blk_frozen aa.out 1))
 go_loopg [5,6] k (fun kq v5 v6 w'=>∃(ab:List ByteArray) (ai:List Int),Aside0 (whole_Print.l0 kq ab ai t184 t187=some (r1,r2))∧Aside0 (kq≤k)∧Aside0 (Kd.R Kd.string 9 w' w.heap.size (fun _=>True) v5 ab)∧Aside0 (Kd.V (Kd.int .u64) 91 w' w.heap.size (fun k_=>some k_≠(v5:Value).ownBlock∧k_≠ad∧k_≠gb188) v6 ai)∧Aside0 (Kd.V (Kd.int .u64) 91 w' w.heap.size (fun k_=>some k_≠(v5:Value).ownBlock∧k_≠ad∧k_≠gb188) (.slice Ao9 t184.length co9) t184)∧Aside0 (w'.heap[ad]? = some (.cells #[.bool an,(.slice ar ag.length au)] 25 (0,0)))∧Aside0 (w'.heap[gb188]? = some (.cells #[(.slice Ao9 t184.length co9),.bool t187] 86 (0,0)))∧Aside0 (Below w.heap.size w w'))
 case atStart=>exact⟨(([]:List ByteArray)),(t184),H',⟨Nat.le_refl _⟩,⟨D0⟩,⟨B6⟩,⟨B6⟩,⟨by(with_reducible repeat (first|refine blk_drewN ?_ _|refine blk_drew ?_|refine blk_alloc ?_ _));exact ac.out⟩,⟨by(with_reducible repeat (first|refine blk_drewN ?_ _|refine blk_drew ?_|refine blk_alloc ?_ _));exact aa.out⟩,⟨by repeat (first|(with_reducible first|exact HB.out|apply below_alloc|apply pw_below_drewN|apply below_drew1|refine below_set ?_ av.out|refine below_set ?_ aw.out)|exact HB.out)⟩⟩
 case round=>
  clear H'
  try clear c1
  try clear p2
  try clear c3
  try clear c4
  try clear c8
  try clear c10
  try clear aN
  try clear aQ
  try clear aU
  try clear aV
  try clear aY
  try clear aZ
  try clear aR
  try clear aT
  try clear aW
  try clear aX
  try clear bb
  try clear bc
  obtain⟨ab,ai,HA,HK1,ae,HO_6,HO_189000,ac,aa,HB⟩:=hrel
  cases gk with
  | zero=>exact absurd HA.out (by simp[whole_Print.l0])
  | succ k1=>
   have H:=HA.out
   clear HA
   simp only[whole_Print.l0]at H
   replace H:=Option.bind_eq_some_iff.mp H
   obtain⟨bd,be,H⟩:=H
   replace H:(if bd=true then(if(ab.length:Int)=0 then(none) else(if t187=true then(if ab.length<8796093022208 then((slices_Reverse_string_string.f k1 (ab++[(⟨#[45]⟩:ByteArray)])).bind fun ah=>((strings_Join.f ah (⟨#[]⟩:ByteArray)).bind fun al=>(some (al,0)))) else(none)) else((slices_Reverse_string_string.f k1 ab).bind fun am=>((strings_Join.f am (⟨#[]⟩:ByteArray)).bind fun ap=>(some (ap,0)))))) else((whole_amount_byLimb.f k1 ai 1000000000000000000).bind fun ax=>((strconv_FormatUint.f ax.2 10).bind fun aj=>((whole_amount_null.f ax.1).bind fun aq=>(if aq=true then(if ab.length<8796093022208 then(whole_Print.l0 k1 (ab++[aj]) ax.1 t184 t187) else(none)) else(none))))))=some (r1,r2):=H
   have A14:=Aside0.mk be
   clear be
   by_cases c15:bd=true
   ·subst c15
    have H1:(if(ab.length:Int)=0 then(none) else(if t187=true then(if ab.length<8796093022208 then((slices_Reverse_string_string.f k1 (ab++[(⟨#[45]⟩:ByteArray)])).bind fun ah=>((strings_Join.f ah (⟨#[]⟩:ByteArray)).bind fun al=>(some (al,0)))) else(none)) else((slices_Reverse_string_string.f k1 ab).bind fun am=>((strings_Join.f am (⟨#[]⟩:ByteArray)).bind fun ap=>(some (ap,0))))))=some (r1,r2):=by rw[if_pos rfl]at H;exact H
    clear H
    have H:=H1
    clear H1
    by_cases c16:(ab.length:Int)=0
    ·rw[if_pos c16]at H
     exact absurd H Z1
    rw[if_neg c16]at H
    have bX:((ab.length:Int)==0)=false:=beq_eq_false_iff_ne.mpr c16
    have bY:((ab.length:Int) != 0)=true:=bne_iff_ne.mpr c16
    have bZ:¬(ab=[]):=fun h_=>c16 (by rw[h_];rfl)
    by_cases c17:t187=true
    ·subst c17
     have H1:(if ab.length<8796093022208 then((slices_Reverse_string_string.f k1 (ab++[(⟨#[45]⟩:ByteArray)])).bind fun ah=>((strings_Join.f ah (⟨#[]⟩:ByteArray)).bind fun al=>(some (al,0)))) else(none))=some (r1,r2):=by rw[if_pos rfl]at H;exact H
     clear H
     have H:=H1
     clear H1
     by_cases c18:ab.length<8796093022208
     ·rw[if_pos c18]at H
      have bv:=Aside0.mk c18
      clear c18
      obtain⟨ay,aD⟩:∃y_:List ByteArray,y_=(ab++[(⟨#[45]⟩:ByteArray)]):=⟨_,rfl⟩
      replace H:((slices_Reverse_string_string.f k1 ay).bind fun ah=>((strings_Join.f ah (⟨#[]⟩:ByteArray)).bind fun al=>(some (al,0))))=some (r1,r2):=by first|(rw[aD];with_reducible exact H)|(have H2_:=(Option.bind_some _ _).symm.trans H;rw[aD];with_reducible exact H2_)|(have H2_:=(Option.bind_some _ _).symm.trans H;with_reducible exact H2_)|with_reducible exact H|(rw[aD];exact H)|exact H
      have bw:=Aside0.mk aD
      clear aD
      replace H:=Option.bind_eq_some_iff.mp H
      obtain⟨ah,bf,H⟩:=H
      replace H:((strings_Join.f ah (⟨#[]⟩:ByteArray)).bind fun al=>(some (al,0)))=some (r1,r2):=H
      have A19:=Aside0.mk bf
      clear bf
      replace H:=Option.bind_eq_some_iff.mp H
      obtain⟨al,bg,H⟩:=H
      replace H:(some (al,0))=some (r1,r2):=H
      have A20:=Aside0.mk bg
      clear bg
      simp only[Option.some.injEq,Prod.mk.injEq]at H
      obtain⟨rfl,rfl⟩:=H
      obtain⟨Ao21,co21,bB⟩:=Kd.V_slice HO_6.out
      subst bB
      go_wp2_with (first|((with_reducible refine gate_callee (f:=86) rfl ?_);refine kgl (some 17) rfl rfl Tryz.func86 #[.slice Ao21 ai.length co21] rfl ?_;(with_reducible refine(whole_amount_null.calls _ _ ai true _ ?side1 ?side2 A14.out).mono ?_);(case side1=>repeat (first|exact(Kd.V_reads' HO_6.out).2.2|(with_reducible refine Kd.C_alloc ?_ _)|(with_reducible refine Kd.C_drewN ?_ _)|(with_reducible refine Kd.C_drew ?_)));(case side2=>exact(Kd.V_reads' HO_6.out).2.1);rintro e w' ⟨rfl,⟨nd,rfl⟩⟩;refine⟨_,rfl,?_⟩;obtain⟨bC,bD,bE⟩:=Kd.R_slice ae.out;subst bE;have ca:=az.out;have cb:=ak.out;have bM:wr.cell? ⟨gb188,0,none⟩=some (.slice Ao9 t184.length co9):=(blk_cell aa.out 0).trans rfl;have bN:wr.cell? ⟨gb188,1,none⟩=some (.bool true):=(blk_cell aa.out 1).trans rfl;have bO:=blk_frozen aa.out 0;have bP:=blk_frozen aa.out 1)|((with_reducible refine gate_builtin (b:=.append) (xs:=#[.tmp 45,.tmp 46]) rfl ?_);at_builtin;refine Kd.R_append Kd.string (w0:=w) w.heap.size rfl (.tmp 45) (.tmp 46) 138 9 (.string ⟨#[]⟩) 16 rfl Tryz.underlying138 info9 rfl J0 Z0 (.slice bC ab.length bD) ab (⟨#[45]⟩:ByteArray) [.string (⟨#[45]⟩:ByteArray)] (fun _=>True) (fun _=>False) rfl rfl ?aP (fun _ hk=>hk.elim) ?aF ?aO ?aB ?aS ?aL ?_;(case aP=>exact rfl);(case aB=>exact(khu HB.out));(case aF=>exact(fun _ _=>trivial));(case aO=>exact(kru ae.out));(case aS=>exact(below_size (khu HB.out)));(case aL=>have:=bv.out;omega);intro ch w25 ho hb hg hat;rw[←bw.out]at ho;replace HO_6:=Aside0.mk (Kd.V_afterv (ok:=(fun k_=>k_≠ad∧k_≠gb188)) J7 hg hat);replace HO_189000:=Aside0.mk (Kd.V_afterv (ok:=(fun k_=>k_≠ad∧k_≠gb188)) Y7 hg hat);replace ac:=Aside0.mk (blk_grown (g:=ad) (o:=.cells #[.bool an,.slice ar ag.length au] 25 (0,0)) (kbu ac.out) hg (Kd.R_ne ae.out ac.out J0));replace aa:=Aside0.mk (blk_grown (g:=gb188) (o:=.cells #[.slice Ao9 t184.length co9,.bool true] 86 (0,0)) (kbu aa.out) hg (Kd.R_ne ae.out aa.out J0));replace HB:=Aside0.mk (hb);have af:=Aside0.mk (ho);clear ae;clear ho hb hg hat;obtain⟨Ao26,co26,bF⟩:=Kd.R_slice af.out;subst bF)|((with_reducible refine gate_callee (f:=89) rfl ?_);refine kgl (some 49) rfl rfl Tryz.func89 #[.slice Ao26 ay.length co26] rfl ?_;(with_reducible refine(slices_Reverse_string_string.calls k1 (fun k_=>some k_=(.slice Ao26 ay.length co26:Value).ownBlock) (.slice Ao26 ay.length co26) ay ah w _ ?side1 ?side2 A19.out).mono ?_);(case side1=>repeat (first|(with_reducible first|exact HB.out|apply below_alloc|apply pw_below_drewN|apply below_drew1|refine below_set ?_ av.out|refine below_set ?_ aw.out)|exact HB.out));(case side2=>exact Kd.R_tight rfl af.out);rintro e w27 ⟨rfl,hy0,hb,hkp⟩;refine⟨_,rfl,?_⟩;replace HO_6:=Aside0.mk (Kd.V_mono (ok':=fun k_=>some k_≠(.slice Ao26 ay.length co26:Value).ownBlock∧k_≠ad∧k_≠gb188) (Kd.V_keptB (HO_6.out) hkp (fun k_ hk_ hs_=>(hk_.2) hs_)) (fun k_ hk_=>⟨hk_.1.2,hk_.1.1.1,hk_.1.1.2⟩));replace HO_189000:=Aside0.mk (Kd.V_mono (ok':=fun k_=>some k_≠(.slice Ao26 ay.length co26:Value).ownBlock∧k_≠ad∧k_≠gb188) (Kd.V_keptB (HO_189000.out) hkp (fun k_ hk_ hs_=>(hk_.2) hs_)) (fun k_ hk_=>⟨hk_.1.2,hk_.1.1.1,hk_.1.1.2⟩));replace ac:=Aside0.mk (blk_kept (kbu ac.out) hkp (fun hs_=>(fun e_=>(Kd.R_ne af.out ac.out J0) e_) hs_));replace aa:=Aside0.mk (blk_kept (kbu aa.out) hkp (fun hs_=>(fun e_=>(Kd.R_ne af.out aa.out J0) e_) hs_));replace af:=Aside0.mk (Kd.R_reok rfl hy0 (fun k_ e_=>af.out.1 k_ e_));replace HB:=Aside0.mk (hb);(try clear hb);(try clear hkp);(try clear hy0))|((with_reducible refine gate_callee (f:=90) rfl ?_);refine goesL_ (some 51) rfl rfl Tryz.func90 X0 rfl #[.slice Ao26 ah.length co26,.string (⟨#[]⟩:ByteArray)] rfl (by(try simp only[List.map_toArray,List.map_cons,List.map_nil]);first|done|(rw[show ah.length=ay.length from(Kd.R_reads' af.out).1.symm]<;>rfl)|rfl|(simp only[List.length_drop,List.length_take];rfl)) ?_;(with_reducible refine(strings_Join.calls _ _ ah (⟨#[]⟩:ByteArray) al _ ?side1 ?side2 A20.out).mono ?_);(case side1=>repeat (first|exact(Kd.R_reads' af.out).2.2|(with_reducible refine Kd.C_alloc ?_ _)|(with_reducible refine Kd.C_drewN ?_ _)|(with_reducible refine Kd.C_drew ?_)));(case side2=>rw[show ah.length=ay.length from(Kd.R_reads' af.out).1.symm];exact(Kd.R_reads' af.out).2.1);rintro e w28 ⟨rfl,hb⟩;refine⟨_,rfl,?_⟩;replace HO_6:=kvb HO_6 hb;replace HO_189000:=kvb HO_189000 hb;replace af:=krb af hb;replace ac:=kbb ac hb;replace aa:=kbb aa hb;replace HB:=kbs HB hb;(try clear hb);(try clear hb2);(try clear hk);(try clear hi)))
      go_ret2
      exact⟨B0,by repeat (first|(with_reducible first|exact HB.out|apply below_alloc|apply pw_below_drewN|apply below_drew1|refine below_set ?_ av.out|refine below_set ?_ aw.out)|exact HB.out)⟩
     rw[if_neg c18]at H
     exact absurd H Z1
    replace c17:=Bool.eq_false_iff.mpr c17
    subst c17
    have H1:((slices_Reverse_string_string.f k1 ab).bind fun am=>((strings_Join.f am (⟨#[]⟩:ByteArray)).bind fun ap=>(some (ap,0))))=some (r1,r2):=by rw[if_neg (show ¬(false=true) by decide)]at H;exact H
    clear H
    have H:=H1
    clear H1
    replace H:=Option.bind_eq_some_iff.mp H
    obtain⟨am,bh,H⟩:=H
    replace H:((strings_Join.f am (⟨#[]⟩:ByteArray)).bind fun ap=>(some (ap,0)))=some (r1,r2):=H
    have A29:=Aside0.mk bh
    clear bh
    replace H:=Option.bind_eq_some_iff.mp H
    obtain⟨ap,bi,H⟩:=H
    replace H:(some (ap,0))=some (r1,r2):=H
    have A30:=Aside0.mk bi
    clear bi
    simp only[Option.some.injEq,Prod.mk.injEq]at H
    obtain⟨rfl,rfl⟩:=H
    obtain⟨Ao31,co31,bG⟩:=Kd.V_slice HO_6.out
    subst bG
    go_wp2_with (first|((with_reducible refine gate_callee (f:=86) rfl ?_);refine kgl (some 17) rfl rfl Tryz.func86 #[.slice Ao31 ai.length co31] rfl ?_;(with_reducible refine(whole_amount_null.calls _ _ ai true _ ?side1 ?side2 A14.out).mono ?_);(case side1=>repeat (first|exact(Kd.V_reads' HO_6.out).2.2|(with_reducible refine Kd.C_alloc ?_ _)|(with_reducible refine Kd.C_drewN ?_ _)|(with_reducible refine Kd.C_drew ?_)));(case side2=>exact(Kd.V_reads' HO_6.out).2.1);rintro e w' ⟨rfl,⟨nd,rfl⟩⟩;refine⟨_,rfl,?_⟩;obtain⟨aH,aI,bH⟩:=Kd.R_slice ae.out;subst bH;have cc:=az.out;have cd:=ak.out;have bQ:wr.cell? ⟨gb188,0,none⟩=some (.slice Ao9 t184.length co9):=(blk_cell aa.out 0).trans rfl;have bR:wr.cell? ⟨gb188,1,none⟩=some (.bool false):=(blk_cell aa.out 1).trans rfl;have bS:=blk_frozen aa.out 0;have bT:=blk_frozen aa.out 1)|((with_reducible refine gate_callee (f:=89) rfl ?_);refine kgl (some 49) rfl rfl Tryz.func89 #[.slice aH ab.length aI] rfl ?_;(with_reducible refine(slices_Reverse_string_string.calls k1 (fun k_=>some k_=(.slice aH ab.length aI:Value).ownBlock) (.slice aH ab.length aI) ab am w _ ?side1 ?side2 A29.out).mono ?_);(case side1=>repeat (first|(with_reducible first|exact HB.out|apply below_alloc|apply pw_below_drewN|apply below_drew1|refine below_set ?_ av.out|refine below_set ?_ aw.out)|exact HB.out));(case side2=>exact Kd.R_tight rfl ae.out);rintro e w35 ⟨rfl,hy0,hb,hkp⟩;refine⟨_,rfl,?_⟩;replace HO_6:=Aside0.mk (Kd.V_mono (ok':=fun k_=>some k_≠(.slice aH ab.length aI:Value).ownBlock∧k_≠ad∧k_≠gb188) (Kd.V_keptB (HO_6.out) hkp (fun k_ hk_ hs_=>(hk_.1) hs_)) (fun k_ hk_=>⟨hk_.1.1,hk_.1.2.1,hk_.1.2.2⟩));replace HO_189000:=Aside0.mk (Kd.V_mono (ok':=fun k_=>some k_≠(.slice aH ab.length aI:Value).ownBlock∧k_≠ad∧k_≠gb188) (Kd.V_keptB (HO_189000.out) hkp (fun k_ hk_ hs_=>(hk_.1) hs_)) (fun k_ hk_=>⟨hk_.1.1,hk_.1.2.1,hk_.1.2.2⟩));replace ac:=Aside0.mk (blk_kept (kbu ac.out) hkp (fun hs_=>(fun e_=>(Kd.R_ne ae.out ac.out J0) e_) hs_));replace aa:=Aside0.mk (blk_kept (kbu aa.out) hkp (fun hs_=>(fun e_=>(Kd.R_ne ae.out aa.out J0) e_) hs_));replace ae:=Aside0.mk (Kd.R_reok rfl hy0 (fun k_ e_=>ae.out.1 k_ e_));replace HB:=Aside0.mk (hb);(try clear hb);(try clear hkp);(try clear hy0))|((with_reducible refine gate_callee (f:=90) rfl ?_);refine goesL_ (some 51) rfl rfl Tryz.func90 X0 rfl #[.slice aH am.length aI,.string (⟨#[]⟩:ByteArray)] rfl (by(try simp only[List.map_toArray,List.map_cons,List.map_nil]);first|done|(rw[show am.length=ab.length from(Kd.R_reads' ae.out).1.symm]<;>rfl)|rfl|(simp only[List.length_drop,List.length_take];rfl)) ?_;(with_reducible refine(strings_Join.calls _ _ am (⟨#[]⟩:ByteArray) ap _ ?side1 ?side2 A30.out).mono ?_);(case side1=>repeat (first|exact(Kd.R_reads' ae.out).2.2|(with_reducible refine Kd.C_alloc ?_ _)|(with_reducible refine Kd.C_drewN ?_ _)|(with_reducible refine Kd.C_drew ?_)));(case side2=>rw[show am.length=ab.length from(Kd.R_reads' ae.out).1.symm];exact(Kd.R_reads' ae.out).2.1);rintro e w36 ⟨rfl,hb⟩;refine⟨_,rfl,?_⟩;replace ae:=krb ae hb;replace HO_6:=kvb HO_6 hb;replace HO_189000:=kvb HO_189000 hb;replace ac:=kbb ac hb;replace aa:=kbb aa hb;replace HB:=kbs HB hb;(try clear hb);(try clear hb2);(try clear hk);(try clear hi)))
    go_ret2
    exact⟨B0,by repeat (first|(with_reducible first|exact HB.out|apply below_alloc|apply pw_below_drewN|apply below_drew1|refine below_set ?_ av.out|refine below_set ?_ aw.out)|exact HB.out)⟩
   replace c15:=Bool.eq_false_iff.mpr c15
   subst c15
   have H1:((whole_amount_byLimb.f k1 ai 1000000000000000000).bind fun ax=>((strconv_FormatUint.f ax.2 10).bind fun aj=>((whole_amount_null.f ax.1).bind fun aq=>(if aq=true then(if ab.length<8796093022208 then(whole_Print.l0 k1 (ab++[aj]) ax.1 t184 t187) else(none)) else(none)))))=some (r1,r2):=by rw[if_neg (show ¬(false=true) by decide)]at H;exact H
   clear H
   have H:=H1
   clear H1
   replace H:=Option.bind_eq_some_iff.mp H
   obtain⟨⟨ao,aJ⟩,bj,H⟩:=H
   replace H:((strconv_FormatUint.f aJ 10).bind fun aj=>((whole_amount_null.f ao).bind fun aq=>(if aq=true then(if ab.length<8796093022208 then(whole_Print.l0 k1 (ab++[aj]) ao t184 t187) else(none)) else(none))))=some (r1,r2):=H
   have A37:=Aside0.mk bj
   clear bj
   replace H:=Option.bind_eq_some_iff.mp H
   obtain⟨aj,bk,H⟩:=H
   replace H:((whole_amount_null.f ao).bind fun aq=>(if aq=true then(if ab.length<8796093022208 then(whole_Print.l0 k1 (ab++[aj]) ao t184 t187) else(none)) else(none)))=some (r1,r2):=H
   have A38:=Aside0.mk bk
   clear bk
   replace H:=Option.bind_eq_some_iff.mp H
   obtain⟨aq,bl,H⟩:=H
   replace H:(if aq=true then(if ab.length<8796093022208 then(whole_Print.l0 k1 (ab++[aj]) ao t184 t187) else(none)) else(none))=some (r1,r2):=H
   have A39:=Aside0.mk bl
   clear bl
   by_cases c40:aq=true
   ·subst c40
    have H1:(if ab.length<8796093022208 then(whole_Print.l0 k1 (ab++[aj]) ao t184 t187) else(none))=some (r1,r2):=by rw[if_pos rfl]at H;exact H
    clear H
    have H:=H1
    clear H1
    by_cases c41:ab.length<8796093022208
    ·rw[if_pos c41]at H
     have bx:=Aside0.mk c41
     clear c41
     obtain⟨bn,aE⟩:∃y_:List ByteArray,y_=(ab++[aj]):=⟨_,rfl⟩
     replace H:(whole_Print.l0 k1 bn ao t184 t187)=some (r1,r2):=by first|(rw[aE];with_reducible exact H)|(have H2_:=(Option.bind_some _ _).symm.trans H;rw[aE];with_reducible exact H2_)|(have H2_:=(Option.bind_some _ _).symm.trans H;with_reducible exact H2_)|with_reducible exact H|(rw[aE];exact H)|exact H
     have bz:=Aside0.mk aE
     clear aE
     have H':=Aside0.mk H
     clear H
     obtain⟨bo,bp,bI⟩:=Kd.V_slice HO_6.out
     subst bI
     go_wp2_with (first|((with_reducible refine gate_callee (f:=86) rfl ?_);refine kgl (some 17) rfl rfl Tryz.func86 #[.slice bo ai.length bp] rfl ?_;(with_reducible refine(whole_amount_null.calls _ _ ai false _ ?side1 ?side2 A14.out).mono ?_);(case side1=>repeat (first|exact(Kd.V_reads' HO_6.out).2.2|(with_reducible refine Kd.C_alloc ?_ _)|(with_reducible refine Kd.C_drewN ?_ _)|(with_reducible refine Kd.C_drew ?_)));(case side2=>exact(Kd.V_reads' HO_6.out).2.1);rintro e w' ⟨rfl,⟨nd,rfl⟩⟩;refine⟨_,rfl,?_⟩)|((with_reducible refine gate_callee (f:=87) rfl ?_);refine kgl (some 21) rfl rfl Tryz.func87 #[.slice bo ai.length bp,.int .u64 1000000000000000000] rfl ?_;(with_reducible refine(whole_amount_byLimb.calls k1 _ _ ai 1000000000000000000 ao aJ _ ?side1 ?side2 A37.out).mono ?_);(case side1=>repeat (first|exact(Kd.V_reads' HO_6.out).2.2|(with_reducible refine Kd.C_alloc ?_ _)|(with_reducible refine Kd.C_drewN ?_ _)|(with_reducible refine Kd.C_drew ?_)));(case side2=>exact(Kd.V_reads' HO_6.out).2.1);rintro e w43 ⟨ci,rfl,ho0,hb⟩;refine⟨_,rfl,?_⟩;replace HO_6:=kvb HO_6 hb;replace HO_189000:=kvb HO_189000 hb;have aA:=Aside0.mk (Kd.V_lower (Kd.V_mono (ok':=fun k_=>some k_≠(u5:Value).ownBlock∧k_≠ad∧k_≠gb188) ho0 (fun k_ hk_=>⟨(Kd.fresh' (Kd.R_lt (kru ae.out)) k_ hk_),(kfb ac hk_),(kfb aa hk_)⟩)) (below_size (khu HB.out)));replace ae:=krb ae hb;replace ac:=kbb ac hb;replace aa:=kbb aa hb;replace HB:=kbs HB hb;(try clear hb);(try clear hb2);(try clear hk);(try clear hi);(try clear ho0))|((with_reducible refine gate_callee (f:=88) rfl ?_);refine kgl (some 25) rfl rfl Tryz.func88 #[.int .u64 aJ,.int .i64 10] rfl ?_;(with_reducible refine(strconv_FormatUint.calls aJ 10 aj _ A38.out).mono ?_);rintro e w' ⟨rfl,⟨nd,rfl⟩⟩;refine⟨_,rfl,?_⟩;obtain⟨bJ,bK,bL⟩:=Kd.V_slice aA.out;subst bL)|((with_reducible refine gate_callee (f:=86) rfl ?_);refine kgl (some 27) rfl rfl Tryz.func86 #[.slice bJ ao.length bK] rfl ?_;(with_reducible refine(whole_amount_null.calls _ _ ao true _ ?side1 ?side2 A39.out).mono ?_);(case side1=>repeat (first|exact(Kd.V_reads' aA.out).2.2|(with_reducible refine Kd.C_alloc ?_ _)|(with_reducible refine Kd.C_drewN ?_ _)|(with_reducible refine Kd.C_drew ?_)));(case side2=>exact(Kd.V_reads' aA.out).2.1);rintro e w' ⟨rfl,⟨nd,rfl⟩⟩;refine⟨_,rfl,?_⟩)|((with_reducible refine gate_builtin (b:=.append) (xs:=#[.tmp 35,.tmp 37]) rfl ?_);at_builtin;refine Kd.R_append Kd.string (w0:=w) w.heap.size rfl (.tmp 35) (.tmp 37) 138 9 (.string ⟨#[]⟩) 16 rfl Tryz.underlying138 info9 rfl J0 Z0 u5 ab aj [.string aj] (fun _=>True) (fun _=>False) rfl rfl ?aP (fun _ hk=>hk.elim) ?aF ?aO ?aB ?aS ?aL ?_;(case aP=>exact rfl);(case aB=>exact(khu HB.out));(case aF=>exact(fun _ _=>trivial));(case aO=>exact(kru ae.out));(case aS=>exact(below_size (khu HB.out)));(case aL=>have:=bx.out;omega);intro cj w45 ho hb hg hat;rw[←bz.out]at ho;replace HO_6:=Aside0.mk (Kd.V_afterv (ok:=(fun k_=>k_≠ad∧k_≠gb188)) J7 hg hat);replace HO_189000:=Aside0.mk (Kd.V_afterv (ok:=(fun k_=>k_≠ad∧k_≠gb188)) Y7 hg hat);replace ac:=Aside0.mk (blk_grown (g:=ad) (o:=.cells #[.bool an,.slice ar ag.length au] 25 (0,0)) (kbu ac.out) hg (Kd.R_ne ae.out ac.out J0));replace aa:=Aside0.mk (blk_grown (g:=gb188) (o:=.cells #[.slice Ao9 t184.length co9,.bool t187] 86 (0,0)) (kbu aa.out) hg (Kd.R_ne ae.out aa.out J0));replace aA:=Aside0.mk (Kd.V_afterv (ok:=(fun k_=>k_≠ad∧k_≠gb188)) (by(with_reducible repeat (first|apply Kd.V_alloc|apply Kd.V_drewN|apply Kd.V_drew));exact Kd.V_mono aA.out (fun _ hk=>⟨⟨hk.2.1,hk.2.2⟩,hk.1⟩)) hg hat);replace HB:=Aside0.mk (hb);have bA:=Aside0.mk (ho);clear ae;clear ho hb hg hat))
     go_roundg k1
     case measure=>have:=HK1.out;omega
     case rel=>exact⟨(bn),(ao),H',⟨Y3⟩,⟨kru bA.out⟩,⟨by(with_reducible repeat (first|apply Kd.V_alloc|apply Kd.V_drewN|apply Kd.V_drew));exact Kd.V_mono aA.out (fun _ hk=>⟨hk.2,⟨hk.1.1,hk.1.2⟩⟩)⟩,⟨by(with_reducible repeat (first|apply Kd.V_alloc|apply Kd.V_drewN|apply Kd.V_drew));exact Kd.V_mono HO_189000.out (fun _ hk=>⟨hk.2,⟨hk.1.1,hk.1.2⟩⟩)⟩,⟨by(with_reducible repeat (first|refine blk_drewN ?_ _|refine blk_drew ?_|refine blk_alloc ?_ _));exact ac.out⟩,⟨by(with_reducible repeat (first|refine blk_drewN ?_ _|refine blk_drew ?_|refine blk_alloc ?_ _));exact aa.out⟩,⟨by repeat (first|(with_reducible first|exact HB.out|apply below_alloc|apply pw_below_drewN|apply below_drew1|refine below_set ?_ av.out|refine below_set ?_ aw.out)|exact HB.out)⟩⟩
    rw[if_neg c41]at H
    exact absurd H Z1
   replace c40:=Bool.eq_false_iff.mpr c40
   subst c40
   have H1:(none)=some (r1,r2):=by rw[if_neg (show ¬(false=true) by decide)]at H;exact H
   clear H
   have H:=H1
   clear H1
   exact absurd H Z1
end Go.Proofs.YtncomlmhagaajaaGreatDoor.PRp
