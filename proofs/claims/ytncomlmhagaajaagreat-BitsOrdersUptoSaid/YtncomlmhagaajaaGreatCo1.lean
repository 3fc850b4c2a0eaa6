/- Part 1 of what the card rests on. -/
import Derived.Test.YtncomlmhagaajaaGreatRows
import Derived.Test.YtncomlmhagaajaaGreatProg
import Derived.Below
import Derived.OwnWalk
import Derived.Laws.MakeOwn
import Derived.Laws.Externs
import Derived.Shelf.Spec.BitsCarry
import Derived.WalkKit
import Derived.KernelRfl
import Derived.RowKit3
import Derived.Lib.AppendStr
import Derived.WideLaws
import Derived.WalkSpells
import Derived.Lib.LazyBuf
import Derived.Deep.LoopGhost
import Derived.Deep.QuietTactic
import Derived.BigQuiet
import Derived.ArgAppend
import Derived.Shelf.Small.Bits
import Derived.Shelf.Strconv.Itoa0
import Derived.Shelf.Bits.Mul64
import Derived.Ground.SlgfProg
import Derived.Shelf.SlicesE.IndexFunc
import Derived.Deep.Draws
import Derived.Deep.AppendLies
import Derived.Maps.AppendAt
import Derived.Laws.BytesArg
import Derived.Laws.OwnMore
import Derived.Deep.OwnRows
import Derived.Tactics
import Derived.Lib.ConvBytes
import Derived.Laws.Slices
import Derived.Deep.DeepCutAuto
import Derived.Deep.CutBlock
import Derived.Deep.RegionHeld3
import Derived.Laws.Rows
import Derived.Laws.IdiomCopy
import Derived.OrdersHeld
import Derived.Laws.BitsLemmas
import Derived.RowKit
import Derived.Test.YtncomlmhagaajaaGreatCo0
set_option maxHeartbeats 8000000
set_option maxRecDepth 100000
set_option linter.unusedVariables false
set_option linter.unusedSimpArgs false
namespace Go.Proofs.YtncomlmhagaajaaGreat.bulks
theorem one_le {H:Type} (d:DataW H):1≤Rows.uptoBulk d:=by
 cases d with
 | lit l=>cases l<;>simp[Rows.uptoBulk]
 | nil=>simp[Rows.uptoBulk]
 | ptr d=>simp[Rows.uptoBulk]
 | slice elems spare=>simp[Rows.uptoBulk]
 | agg parts=>simp[Rows.uptoBulk]
 | iface t d=>simp[Rows.uptoBulk]
 | map entries=>simp[Rows.uptoBulk]
 | held h=>simp[Rows.uptoBulk]
theorem length_le {H:Type} (l:List (DataW H)):l.length≤Rows.uptoBulkAll l:=by
 induction l with
 | nil=>simp[Rows.uptoBulkAll]
 | cons x r ih=>have:=one_le x;simp only[Rows.uptoBulkAll,List.length_cons];omega
theorem slice_le {H:Type} (elems spare:List (DataW H)):elems.length+spare.length+1≤Rows.uptoBulk (.slice elems spare):=by
 have h1:=length_le elems
 have h2:=length_le spare
 simp only[Rows.uptoBulk]
 omega
theorem bound {H:Type} {l:List (DataW H)} (hk:Rows.uptoSmall H l=true):Rows.uptoBulkAll l≤1048576:=by
 simpa [Rows.uptoSmall] using hk
end Go.Proofs.YtncomlmhagaajaaGreat.bulks
namespace Go.Proofs.YtncomlmhagaajaaGreatW.PrintWords
open Go.RowKit
namespace Kd
section
variable {α:Type} {P:Program} {ops:Array Oper} {o:Oper} {a:Act} {rest:List Oper} {Q:Exit→Act→World→Prop}
theorem R_make0 (d:Kd α) {w0 W:World} (base e:Nat) (hgd:o.guard=none) {N:Tmp} (_hd:o.dst=some N) (t:TypeId) (x y:Operand) (ho:o.op=.makeSlice t x y) (n:Int) (hx:a.eval x=.int .i64 0) (hy:a.eval y=.int .i64 n)
  (ht:P.underlying t=some (.slice e)) (z:Value) (bytes:Nat) (hinfo:(P.info? e).map (fun i=>(i.zero,i.size,i.bytes))=some (some z,d.sz,bytes)) (_hz:z.cells.size=d.sz) (_hs0:0<d.sz) (hb0:0<bytes)
  (z0:α) {ok okp:Nat→Prop} (_hzero:d.M W base okp z0 z.cells.toList) (_hok:∀k,okp k→ok k) (hfresh:ok W.heap.size) (h0:0≤n) (hl:n.toNat*bytes≤281474976710656) (HB:Below base w0 W) (hbase:base≤W.heap.size)
  (h:∀v1 w1,d.R e w1 base ok v1 []→Below base w0 w1→W.grownBy w1 none→(∃b,v1.ownBlock=some b∧W.heap.size≤b)→wpList P ops Q rest (a.put o.dst v1) w1):wpList P ops Q (o::rest) a W:=by
 obtain⟨m,rfl⟩:=Int.eq_ofNat_of_zero_le h0
 simp only[Int.toNat_natCast]at hl
 obtain⟨i0,hi,hzz⟩:=Option.map_eq_some_iff.1 hinfo
 simp only[Prod.mk.injEq]at hzz
 obtain⟨hz0,hz1,hz2⟩:=hzz
 have hm:m≤281474976710656:=Nat.le_trans (Nat.le_mul_of_pos_right _ hb0) hl
 have hr:=run_make (P:=P) W t e i0 z ht hi hz0 .i64 .i64 0 (m:Int) (by omega) (by omega)
  (by
   have h3:((i0.bytes*m:Nat):Int)≤281474976710656:=by rw[hz2,Nat.mul_comm];omega
   rwa [Int.natCast_mul]at h3) (by omega)
 simp only[Int.toNat_natCast,Int.toNat_zero]at hr
 rw[hz1]at hr
 have hrun:(execOp a.eval o).run P W=.ok (.value (.slice (some ⟨W.heap.size,0,none⟩) 0 m)) (W.alloc (.cells (madeCells z.cells (m*d.sz)) e)):=by
  simp[execOp,ho,hx,hy,hr]
 refine event_run hgd hrun (h _ _ ⟨fun k hk=>?_,[],?_,?_⟩ (HB.alloc hbase _) (World.grownBy_alloc W _ none) ⟨W.heap.size,by simp[Value.ownBlock],Nat.le_refl _⟩)
 ·have:W.heap.size=k:=by simpa [Value.ownBlock] using hk
  subst this
  exact hfresh
 ·exact World.ownsRow_made W _ m hbase (by unfold maxLen;omega) (by rw[size_madeCells])
 exact Reps.none _ _
end
end Kd
end Go.Proofs.YtncomlmhagaajaaGreatW.PrintWords
namespace Go.Proofs.YtncomlmhagaajaaGreat.Mine
open Go.RowKit Go.Proofs.YtncomlmhagaajaaGreatW.PrintWords Go.Proofs.YtncomlmhagaajaaGreatW.PrintLast Go.Proofs.YtncomlmhagaajaaGreatW.PrintMore
def bits_Add64.f (x y c:Int):Option (Int×Int):=if 0≤x∧0≤y∧0≤c∧c≤1 then some ((x+y+c)%18446744073709551616,(x+y+c)/18446744073709551616) else none
theorem bits_Add64.run {x y c r1 r2:Int} (h:bits_Add64.f x y c=some (r1,r2)):∀w:World,(callFunc 177 #[.int .u64 x,.int .u64 y,.int .u64 c]).run Tryz.prog w=.ok (.value (.tuple #[.int .u64 r1,.int .u64 r2])) w:=by
 intro w
 unfold bits_Add64.f at h
 split at h
 ·rename_i hc
  obtain⟨hx,hy,h0,h1⟩:=hc
  have h2:=Option.some.inj h
  simp only[Prod.mk.injEq]at h2
  obtain⟨rfl,rfl⟩:=h2
  rw[run_callFunc_extern Tryz.func177 Z0 Z0 Z0 (e:=add64Entry) Z0,run_add64 x y c hx hy h0 h1]
  rfl
 cases h
def bits_Sub64.f (x y c:Int):Option (Int×Int):=if 0≤x∧0≤y∧y<18446744073709551616∧0≤c∧c≤1 then some ((x-y-c)%18446744073709551616,if x<y+c then 1 else 0) else none
theorem bits_Sub64.run {x y c r1 r2:Int} (h:bits_Sub64.f x y c=some (r1,r2)):∀w:World,(callFunc 178 #[.int .u64 x,.int .u64 y,.int .u64 c]).run Tryz.prog w=.ok (.value (.tuple #[.int .u64 r1,.int .u64 r2])) w:=by
 intro w
 unfold bits_Sub64.f at h
 split at h
 ·rename_i hc
  obtain⟨hx,hy,hy',h0,h1⟩:=hc
  have h2:=Option.some.inj h
  simp only[Prod.mk.injEq]at h2
  obtain⟨rfl,rfl⟩:=h2
  obtain⟨x,rfl⟩:=Int.eq_ofNat_of_zero_le hx
  obtain⟨y,rfl⟩:=Int.eq_ofNat_of_zero_le hy
  obtain⟨c,rfl⟩:=Int.eq_ofNat_of_zero_le h0
  have e1:(((x+18446744073709551616-y-c)%18446744073709551616:Nat):Int)=((x:Int)-y-c)%18446744073709551616:=by omega
  have e2:((if x<y+c then 1 else 0:Nat):Int)=if(x:Int)<y+c then 1 else 0:=by split<;>split<;>omega
  rw[run_callFunc_extern Tryz.func178 Z0 Z0 Z0 (e:=sub64Entry) Z0,run_sub64 x y c Y0]
  rw[←e1,←e2]
  rfl
 cases h
class Up (W W':World):Prop where
 below:Below W.heap.size W W'
instance Up.rfl_ {W:World}:Up W W:=⟨Below.refl _ _⟩
instance Up.alloc_ {W W':World} [h:Up W W'] (o:Obj):Up W (W'.alloc o):=⟨h.below.alloc h.below.size o⟩
instance Up.drewN_ {W W':World} [h:Up W W'] (n:Nat):Up W (W'.drewN n):=⟨pw_below_drewN h.below n⟩
instance Up.drew_ {W W':World} [h:Up W W']:Up W W'.drew:=⟨below_drew h.below⟩
section
variable {w W W' w1:World} {g g' k:Nat} {o:Obj} [u:Up W W']
include u
theorem kbu (h:W.heap[g]? = some o):W'.heap[g]? = some o:=blk_below h u.below
theorem khu (h:Below w.heap.size w W):Below w.heap.size w W':=h.trans (u.below.mono h.size)
theorem kbb (h:Aside0 (W.heap[g]? = some o)) (hb:Below W'.heap.size W' w1):Aside0 (w1.heap[g]? = some o):=⟨blk_below (kbu h.out) hb⟩
theorem kbs (h:Aside0 (Below w.heap.size w W)) (hb:Below W'.heap.size W' w1):Aside0 (Below w.heap.size w w1):=⟨below_step (khu h.out) hb⟩
theorem kbz (hg:g'=W'.heap.size) (h:Aside0 (Below w.heap.size w W)):Aside0 (w.heap.size≤g'):=⟨by rw[hg];exact below_size (khu h.out)⟩
theorem knl (hg:g'=W'.heap.size) (h:Aside0 (W.heap[g]? = some o)):Aside0 (g≠g'):=⟨by rw[hg];exact Nat.ne_of_lt (blk_lt (kbu (W':=W') h.out))⟩
theorem kng (hg:g'=W'.heap.size) (h:Aside0 (W.heap[g]? = some o)):Aside0 (g'≠g):=⟨by rw[hg];exact Nat.ne_of_gt (blk_lt (kbu (W':=W') h.out))⟩
theorem kfb (h:Aside0 (W.heap[g]? = some o)) (hn:W'.heap.size≤k):k≠g:=Kd.freshB (kbu h.out) k hn
variable {α:Type} {d:Kd α} {e base n:Nat} {ok:Nat→Prop} {v:Value} {xs:List α} {A:Option Addr}
theorem kvu (h:Kd.V d e W base ok v xs):Kd.V d e W' base ok v xs:=Kd.V_below h u.below
theorem kvb (h:Aside0 (Kd.V d e W base ok v xs)) (hb:Below W'.heap.size W' w1):Aside0 (Kd.V d e w1 base ok v xs):=⟨Kd.V_below (kvu h.out) hb⟩
theorem kru (h:d.R e W base ok v xs):d.R e W' base ok v xs:=Kd.R_below h u.below
theorem krb (h:Aside0 (d.R e W base ok v xs)) (hb:Below W'.heap.size W' w1):Aside0 (d.R e w1 base ok v xs):=⟨Kd.R_below (kru h.out) hb⟩
end
end Go.Proofs.YtncomlmhagaajaaGreat.Mine
namespace Go.Proofs.YtncomlmhagaajaaGreat.Mine
open Go Go.RowKit Go.Proofs.YtncomlmhagaajaaGreatW.PrintWords Go.Proofs.YtncomlmhagaajaaGreatW.PrintLast Go.Proofs.YtncomlmhagaajaaGreatW.PrintMore
def bmL:Nat→Nat→List Bool
  | 0,_=>[]
  | n+1,m=>Nat.beq (Nat.mod m 2) 1::bmL n (Nat.div m 2)
def bm_ (n m:Nat):Array Bool:=⟨bmL n m⟩
section
variable {P:Program} {ops:Array Oper} {Q:Exit→Act→World→Prop} {md:Region.Mode} {S:World→Prop} {ds:List Nat}
theorem pu_ {oi:Oper} {fuel:Nat} {l:Array Bool} {a:Act} {w:World} (i:Nat) (N:Tmp) (v:Value) (l':Array Bool) (hi:ops[i]? = some oi) (hN:oi.dst=some N) (hc:anyB md ops l l' i=true)
 (hQ:∀c a w,Q (.panic c) (a.put oi.dst v) w→Q (.panic c) a w) (h1:Region.wanted oi (yielded ops a.tmps)=true) (h2:∀w,(execOp a.eval oi).run P w=.ok (.value v) w) (a':Act) (ha:a.put (some N) v=a')
 (h:wpAnyLast P md ops Q S ds fuel l' a' w):wpAnyLast P md ops Q S ds (fuel+1) l a w:=pure_ l' hi hN hc hQ (Or.inl ⟨h1,h2⟩) ha h
theorem tk_ {oi:Oper} {fuel:Nat} {l:Array Bool} {a:Act} {w:World} (i:Nat) (N:Tmp) (v:Value) (l':Array Bool) (hi:ops[i]? = some oi) (hN:oi.dst=some N) (hc:takeB md ops ds l l' i=true)
 (hQ:∀c a w,Q (.panic c) (a.put oi.dst v) w→Q (.panic c) a w) (h1:Region.wanted oi (yielded ops a.tmps)=true) (h2:∀w,S w→(execOp a.eval oi).run P w=.ok (.value v) w) (hS:S w) (a':Act) (ha:a.put (some N) v=a')
 (h:wpAnyLast P md ops Q S ds fuel l' a' w):wpAnyLast P md ops Q S ds (fuel+1) l a w:=take_ l' hi hN hc hQ (Or.inl ⟨h1,h2⟩) hS ha h
theorem gd {rest:List Oper} {o:Oper} {a:Act} {W:World} (N:Tmp) (_hN:o.dst=some N) (h:wpList P ops Q (o::rest) a W):wpList P ops Q (o::rest) a W:=h
theorem gs {rest:List Oper} {o:Oper} {a:Act} {W:World} (t:TypeId) (p v:Tmp) (_ho:o.op=.store t (.tmp p) (.tmp v)) (h:wpList P ops Q (o::rest) a W):wpList P ops Q (o::rest) a W:=h
end
theorem hv.{u} {α:Type u} {l l' m:List α} {n:Nat} {x:Option α} (h:Aside0 (l=l')) (e:(l'++m)[n]? = x):(l++m)[n]? = x:=by rw[h.out];exact e
theorem lb {a b:Nat} (h:Nat.ble a b=true):a≤b:=Nat.le_of_ble_eq_true h
theorem kss {α:Type}:(∀(xs:List α) (i:Nat) (a:α),xs.toArray.setIfInBounds i a=(xs.set i a).toArray)∧(∀(xs:List α) (x a:α),(x::xs).set 0 a=a::xs)∧(∀(xs:List α) (x a:α) (i:Nat),(x::xs).set (i+1) a=x::xs.set i a):=
 ⟨fun _ _ _=>by simp,fun _ _ _=>rfl,fun _ _ _ _=>rfl⟩
section
variable {P:Program} {ops:Array Oper} {Q:Exit→Act→World→Prop} {md:Region.Mode} {S:World→Prop} {ds:List Nat}
theorem kgo {oi:Oper} {N:Option Tmp} {a:Act} {w:World} {K:Act→World→Prop} {f:FuncId} {fn:Func} {ar:Array Operand} {ts:Array TypeId} (hf:P.funcs[f]? = some fn) (args:Array Value)
  (hw:Region.wanted oi (yielded ops a.tmps)=true) (hN:oi.dst=N) (hop:oi.op=.call {callee:=.value (.func f),args:=ar,argTypes:=ts})
  (h:Calls P f args w fun e w'=>∃v,e=.returned v∧K (a.put N v) w') (hargs:ar.map a.eval=args:=by(try simp only[List.map_toArray,List.map_cons,List.map_nil]);first|done|rfl|(simp only[List.length_drop,List.length_take];rfl)) (hname:(fn.name == "runtime.NumGoroutine")=false:=by kernel_rfl) (hb:fn.body.isSome=true:=by rfl):if Region.wanted oi (yielded ops a.tmps)=true then Oper.wp P oi a w K Q else K (a.put N undef) w:=
 goes_ hf hname hb args hw hN hop hargs h
theorem kgl {rest:List Oper} {oi:Oper} {a:Act} {w:World} (N:Option Tmp) (hd:oi.dst=N) (hg:oi.guard=none) {f:FuncId} {fn:Func} {ar:Array Operand} {ts:Array TypeId} (hf:P.funcs[f]? = some fn) (args:Array Value)
  (hop:oi.op=.call {callee:=.value (.func f),args:=ar,argTypes:=ts})
  (h:Calls P f args w fun e w'=>∃v,e=.returned v∧wpList P ops Q rest (a.put N v) w') (hargs:ar.map a.eval=args:=by(try simp only[List.map_toArray,List.map_cons,List.map_nil]);first|done|rfl|(simp only[List.length_drop,List.length_take];rfl)) (hname:(fn.name == "runtime.NumGoroutine")=false:=by kernel_rfl) (hb:fn.body.isSome=true:=by rfl):wpList P ops Q (oi::rest) a w:=
 goesL_ N hd hg hf hname hb args hop hargs h
theorem kbe {rest:List Oper} {o:Oper} {a:Act} {W:World} (N:Tmp) (cs:Array Value) (t:TypeId)
  (h:∀g,g=W.heap.size→∀w1,w1.heap[g]? = some (.cells cs t (0,0))→Below W.heap.size W w1→wpList P ops Q rest (a.put o.dst (.pointer (some ⟨g,0,none⟩))) w1)
  (hd:o.dst=some N:=by rfl) (hgd:o.guard=none:=by rfl) (hrun:(execOp a.eval o).run P W=.ok (.value (.pointer (some ⟨W.heap.size,0,none⟩))) (W.alloc (.cells cs t (0,0))):=by first|(go_simp;done)|(go_simp;rfl)):wpList P ops Q (o::rest) a W:=
 box_event hgd hd hrun h
end
class UpO (W:outParam World) (W':World):Prop where
 below:Below W.heap.size W W'
instance (priority:=low) UpO.rfl_ {W:World}:UpO W W:=⟨Below.refl _ _⟩
instance UpO.alloc_ {W W':World} [h:UpO W W'] (o:Obj):UpO W (W'.alloc o):=⟨h.below.alloc h.below.size o⟩
instance UpO.drewN_ {W W':World} [h:UpO W W'] (n:Nat):UpO W (W'.drewN n):=⟨pw_below_drewN h.below n⟩
instance UpO.drew_ {W W':World} [h:UpO W W']:UpO W W'.drew:=⟨below_drew h.below⟩
theorem kfa {W W':World} [u:UpO W W'] {g:Nat} {t:TypeId} {cs:Array Value} {p:Addr} {v:Value} (hp:Aside0 (g≠p.block)) (h:W.heap[g]? = some (.cells cs t (0,0))):(W'.setCell p v).heap[g]? = some (.cells cs t (0,0)):=blk_far (blk_below h u.below) hp.out v
theorem kpu {W W':World} [u:UpO W W'] {g:Nat} {t:TypeId} (cs:Array Value) {cs':Array Value} (i:Nat) {v:Value} (h:W.heap[g]? = some (.cells cs t (0,0))) (e:cs.setIfInBounds i v=cs':=by rfl):(W'.setCell ⟨g,i,none⟩ v).heap[g]? = some (.cells cs' t (0,0)):=blk_put (blk_below h u.below) i v e
abbrev Bx:=Nat×Array Value×TypeId
structure Keep (w:World) (bs:List Bx) (vs:List (Value×List Int)) (W:World):Prop where
 below:Below w.heap.size w W
 blk:∀b∈bs,w.heap.size≤b.1∧W.heap[b.1]? = some (.cells b.2.1 b.2.2 (0,0))
 nod:(bs.map (·.1)).Nodup
 val:∀v∈vs,Kd.V (Kd.int .u64) 48 W 0 (fun k=>∀b∈bs,k≠b.1) v.1 v.2
namespace Keep
variable {w W W':World} {bs bs':List Bx} {vs vs':List (Value×List Int)} {g:Nat} {cs:Array Value} {t:TypeId} {v:Value} {xs:List Int}
theorem refl (w:World):Keep w [] [] w:=⟨Below.refl _ _,fun _ h=>absurd h F1,List.nodup_nil,fun _ h=>absurd h F1⟩
theorem up (K:Keep w bs vs W) (hb:Below W.heap.size W W'):Keep w bs vs W':=
 ⟨K.below.trans (hb.mono K.below.size),fun b h=>⟨(K.blk b h).1,blk_below (K.blk b h).2 hb⟩,K.nod,fun v h=>Kd.V_below (K.val v h) hb⟩
theorem u [u:UpO W W'] (K:Keep w bs vs W):Keep w bs vs W':=K.up u.below
theorem add (K:Keep w bs vs W) {base:Nat} {ok:Nat→Prop} (hb:Below W.heap.size W W') (ho:Kd.V (Kd.int .u64) 48 W' base (fun k=>ok k∨W.heap.size≤k) v xs) (hok:∀k,ok k→k<w.heap.size∨∀b∈bs,k≠b.1):Keep w bs ((v,xs)::vs) W':=by
 have K':=K.up hb
 refine⟨K'.below,K'.blk,K'.nod,fun x hx=>?_⟩
 rcases List.mem_cons.1 hx with rfl|hx
 ·refine Kd.V_lower (Kd.V_mono ho fun k hk b hbm=>?_) (Nat.zero_le _)
  have h1:=K.blk b hbm
  have h2:=blk_lt h1.2
  rcases hk with hk|hk
  ·rcases hok k hk with h|h
   ·omega
   exact h b hbm
  omega
 exact K'.val x hx
theorem heap (K:Keep w bs vs W) (n:Nat) (hn:bs[n]? = some (g,cs,t)):W.heap[g]? = some (.cells cs t (0,0)):=(K.blk _ (List.mem_of_getElem? hn)).2
theorem V (K:Keep w bs vs W) (n:Nat) (hn:vs[n]? = some (v,xs)):Kd.V (Kd.int .u64) 48 W W.heap.size (fun k=>∀b∈bs,k≠b.1) v xs:=K.val _ (List.mem_of_getElem? hn)
theorem slice (K:Keep w bs vs W) (n:Nat) (hn:vs[n]? = some (v,xs)):∃A c,v=.slice A xs.length c:=Kd.V_slice (K.V n hn)
theorem C (K:Keep w bs vs W) (n:Nat) {A:Option Addr} {c:Nat} (hn:vs[n]? = some (.slice A xs.length c,xs)):Kd.C (Kd.int .u64) W A xs.length xs:=(Kd.V_reads' (K.V n hn)).2.2
end Keep
theorem bindA {α β:Type} {o:Option α} {f:α→Option β} {r:β} (h:o.bind f=some r):∃a,Aside0 (o=some a)∧f a=some r:=by
 obtain⟨a,h1,h2⟩:=Option.bind_eq_some_iff.mp h
 exact⟨a,⟨h1⟩,h2⟩
theorem kls:(∀l:List Bx,[]++l=l)∧(∀(x:Bx) (l m:List Bx),x::l++m=x::(l++m))∧(∀(xs:List Bx) (x a:Bx),(x::xs).set 0 a=a::xs)∧(∀(xs:List Bx) (x a:Bx) (i:Nat),(x::xs).set (i+1) a=x::xs.set i a):=
 ⟨fun _=>rfl,fun _ _ _=>rfl,fun _ _ _=>rfl,fun _ _ _ _=>rfl⟩
section
variable {P:Program} {ops:Array Oper} {Q:Exit→Act→World→Prop} {md:Region.Mode} {S:World→Prop} {ds:List Nat}
theorem kbx {o:Oper} {a:Act} {W:World} {Kc:Act→World→Prop} (cs:Array Value) (t:TypeId) (N:Tmp)
  (h:∀g,g=W.heap.size→∀w1,w1.heap[g]? = some (.cells cs t (0,0))→Below W.heap.size W w1→Kc (a.put o.dst (.pointer (some ⟨g,0,none⟩))) w1)
  (hg:Region.wanted o (yielded ops a.tmps)=true:=by rfl) (hd:o.dst=some N:=by rfl) (hr:(execOp a.eval o).run P W=.ok (.value (.pointer (some ⟨W.heap.size,0,none⟩))) (W.alloc (.cells cs t (0,0))):=by first|(go_simp;done)|(go_simp;rfl)):if Region.wanted o (yielded ops a.tmps)=true then Oper.wp P o a W Kc Q else Kc (a.put o.dst undef) W:=
 box_step hg hd hr h
theorem knq {fuel:Nat} {l:Array Bool} {a a':Act} {w:World} (h:wpAnyLast P md ops Q S ds fuel l a' w) (ha:a=a':=by first|(simp only[putAll,Act.put,kss,i64_w,i32_w];done)|(simp only[putAll,Act.put,kss,i64_w,i32_w];rfl)|rfl):wpAnyLast P md ops Q S ds fuel l a w:=norm_ ha h
end
end Go.Proofs.YtncomlmhagaajaaGreat.Mine
namespace Go.Proofs.YtncomlmhagaajaaGreat.Mine
open Go Go.RowKit Go.Proofs.YtncomlmhagaajaaGreatW.PrintWords Go.Proofs.YtncomlmhagaajaaGreatW.PrintLast Go.Proofs.YtncomlmhagaajaaGreatW.PrintMore
structure KV where
 {α:Type}
 kd:Kd α
 e:TypeId
 v:Value
 xs:List α
 ok:Nat→Prop
def KOk (n:Nat) (bs:List Bx) (ok:Nat→Prop) (k:Nat):Prop:=(ok k∨n≤k)∧∀b∈bs,k≠b.1
structure Kp (w:World) (bs:List Bx) (vs os:List KV) (W:World):Prop where
 below:Below w.heap.size w W
 blk:∀b∈bs,w.heap.size≤b.1∧W.heap[b.1]? = some (.cells b.2.1 b.2.2 (0,0))
 nod:(bs.map (·.1)).Nodup
 val:∀v∈vs,Kd.V v.kd v.e W 0 (KOk w.heap.size bs v.ok) v.v v.xs
 own:∀v∈os,v.kd.R v.e W w.heap.size (fun k=>∀b∈bs,k≠b.1) v.v v.xs
 sep:os.Pairwise fun a b=>∀k,a.v.ownBlock=some k→b.v.ownBlock≠some k
theorem mem_insI {α:Type _} {a b:α}:∀ {l:List α} {i:Nat},a∈l.insertIdx i b→a=b∨a∈l:=fun {l i} h=>by
 by_cases hi:i≤l.length
 ·exact(List.mem_insertIdx hi).1 h
 exact .inr (by rwa [List.insertIdx_of_length_lt Y0]at h)
namespace Kp
variable {w W W':World} {bs bs':List Bx} {vs vs' os os':List KV} {g:Nat} {cs:Array Value} {t:TypeId}
theorem refl (w:World):Kp w [] [] [] w:=⟨Below.refl _ _,fun _ h=>absurd h F1,List.nodup_nil,fun _ h=>absurd h F1,fun _ h=>absurd h F1,List.Pairwise.nil⟩
theorem parV {α:Type} {kd:Kd α} {e base:Nat} {v:Value} {xs:List α} {P:Nat→Prop} (K:Kp w [] vs os w) (h:Kd.V kd e w base P v xs):Kp w [] (vs++[⟨kd,e,v,xs,P⟩]) os w:=
 ⟨K.below,K.blk,K.nod,fun x hx=>by
  rcases List.mem_append.1 hx with hx|hx
  ·exact K.val x hx
  obtain rfl:=List.mem_singleton.1 hx
  exact Kd.V_lower (Kd.V_mono h fun k hk=>⟨.inl hk,fun b hb=>absurd hb F1⟩) (Nat.zero_le _),K.own,K.sep⟩
theorem up (K:Kp w bs vs os W) (hb:Below W.heap.size W W'):Kp w bs vs os W':=
 ⟨K.below.trans (hb.mono K.below.size),fun b h=>⟨(K.blk b h).1,blk_below (K.blk b h).2 hb⟩,K.nod,fun v h=>Kd.V_below (K.val v h) hb,fun v h=>Kd.R_below (K.own v h) hb,K.sep⟩
theorem u [u:UpO W W'] (K:Kp w bs vs os W):Kp w bs vs os W':=K.up u.below
theorem perm (K:Kp w bs vs os W) (hp:bs.Perm bs'):Kp w bs' vs os W:=
 ⟨K.below,fun b h=>K.blk b (hp.mem_iff.2 h),(hp.map _).nodup_iff.1 K.nod,fun v h=>Kd.V_mono (K.val v h) fun _ hk=>⟨hk.1,fun b hb=>hk.2 b (hp.mem_iff.2 hb)⟩,fun v h=>Kd.R_mono (K.own v h) fun _ hk b hb=>hk b (hp.mem_iff.2 hb),K.sep⟩
theorem box (K:Kp w bs vs os W) (hg:g=W.heap.size) (hx:W'.heap[g]? = some (.cells cs t (0,0))) (hb:Below W.heap.size W W'):Kp w (bs++[(g,cs,t)]) vs os W':=by
 have K':=K.up hb
 refine⟨K'.below,fun b h=>?_,?_,fun v h=>?_,fun v h=>?_,K.sep⟩
 ·rcases List.mem_append.1 h with h|h
  ·exact K'.blk b h
  obtain rfl:=List.mem_singleton.1 h
  exact⟨by rw[hg];exact below_size K.below,hx⟩
 ·rw[List.map_append,List.nodup_append]
  refine⟨K.nod,F1,fun a ha b hb'=>?_⟩
  obtain rfl:b=g:=by simpa using hb'
  obtain⟨c,hc,rfl⟩:=List.mem_map.1 ha
  have:=blk_lt (K.blk c hc).2
  omega
 ·refine Kd.V_mono (Kd.V_below (Kd.V_elderB (K.val v h) g (Nat.le_of_eq hg.symm)) hb) fun k hk=>⟨hk.1.1,fun b hbm=>?_⟩
  rcases List.mem_append.1 hbm with hm|hm
  ·exact hk.1.2 b hm
  obtain rfl:=List.mem_singleton.1 hm
  exact hk.2
 refine Kd.R_mono (Kd.R_below (Kd.R_elderB (K.own v h) g (Nat.le_of_eq hg.symm)) hb) fun k hk b hbm=>?_
 rcases List.mem_append.1 hbm with hm|hm
 ·exact hk.1 b hm
 obtain rfl:=List.mem_singleton.1 hm
 exact hk.2
theorem boxI {l:List Bx} (i:Nat) (K:Kp w (bs++l) vs os W) (hi:i≤l.length) (hg:g=W.heap.size) (hx:W'.heap[g]? = some (.cells cs t (0,0))) (hb:Below W.heap.size W W'):Kp w (bs++l.insertIdx i (g,cs,t)) vs os W':=by
 refine(K.box hg hx hb).perm ?_
 rw[List.append_assoc]
 refine List.Perm.append_left _ (List.Perm.trans ?_ (List.perm_insertIdx (g,cs,t) l hi).symm)
 exact List.perm_append_comm (l₂:=[(g,cs,t)])
theorem out (K:Kp w bs vs os W) {k:Nat} (h:W.heap.size≤k) (ok:Nat→Prop):KOk w.heap.size bs ok k:=
 ⟨.inr (Nat.le_trans (below_size K.below) h),fun b hb e=>by have:=blk_lt (K.blk b hb).2;omega⟩
theorem add {α:Type} {kd:Kd α} {e base:Nat} {v:Value} {xs:List α} {ok:Nat→Prop} (okn:Nat→Prop) (K:Kp w bs vs os W) (hb:Below W.heap.size W W') (ho:Kd.V kd e W' base (fun k=>ok k∨W.heap.size≤k) v xs) (hok:∀k,ok k→KOk w.heap.size bs okn k):Kp w bs (vs++[⟨kd,e,v,xs,okn⟩]) os W':=by
 have K':=K.up hb
 refine⟨K'.below,K'.blk,K'.nod,fun x hx=>?_,K'.own,K'.sep⟩
 rcases List.mem_append.1 hx with hx|hx
 ·exact K'.val x hx
 obtain rfl:=List.mem_singleton.1 hx
 exact Kd.V_lower (Kd.V_mono ho fun k hk=>hk.elim (hok k) fun h=>K.out h okn) (Nat.zero_le _)
theorem addR2 {α β:Type} {kd:Kd α} {kd2:Kd β} {e e2:Nat} {v v2:Value} {xs:List α} {xs2:List β} (K:Kp w bs vs os W) (hb:Below W.heap.size W W') (ho:kd.R e W' W.heap.size (fun k=>some k≠v2.ownBlock) v xs) (ho2:kd2.R e2 W' W.heap.size (fun k=>some k≠v.ownBlock) v2 xs2) :
  Kp w bs (vs++[⟨kd,e,v,xs,fun _=>False⟩]++[⟨kd2,e2,v2,xs2,fun _=>False⟩]) (os++[⟨kd,e,v,xs,fun _=>True⟩]++[⟨kd2,e2,v2,xs2,fun _=>True⟩]) W':=by
 have K1:=K.add (base:=0) (ok:=fun _=>False) (fun _=>False) hb (Kd.V_mono (Kd.R_V (Kd.R_bound ho)) fun k hk=>.inr hk.2.1) (fun k h=>h.elim)
 have K2:=K.add (base:=0) (ok:=fun _=>False) (fun _=>False) hb (Kd.V_mono (Kd.R_V (Kd.R_bound ho2)) fun k hk=>.inr hk.2.1) (fun k h=>h.elim)
 have K':=K.up hb
 have hk1:∀k,W.heap.size≤k→∀b∈bs,k≠b.1:=fun k hk b hb e=>by have:=blk_lt (K.blk b hb).2;omega
 refine⟨K'.below,K'.blk,K'.nod,fun x hx=>?_,fun x hx=>?_,?_⟩
 ·rcases List.mem_append.1 hx with hx|hx
  ·exact K1.val x hx
  exact K2.val x (List.mem_append_right _ hx)
 ·rcases List.mem_append.1 hx with hx|hx
  ·rcases List.mem_append.1 hx with hx|hx
   ·exact K'.own x hx
   obtain rfl:=List.mem_singleton.1 hx
   exact Kd.R_lower (Kd.R_mono (Kd.R_bound ho) fun k hk=>hk1 k hk.2.1) (below_size K.below)
  obtain rfl:=List.mem_singleton.1 hx
  exact Kd.R_lower (Kd.R_mono (Kd.R_bound ho2) fun k hk=>hk1 k hk.2.1) (below_size K.below)
 rw[List.pairwise_append,List.pairwise_append]
 refine⟨⟨K.sep,List.pairwise_singleton _ _,fun a ha b hb' k h1 h2=>?_⟩,List.pairwise_singleton _ _,fun a ha b hb' k h1 h2=>?_⟩
 ·obtain rfl:=List.mem_singleton.1 hb'
  have g1:=Kd.R_base ho k h2
  have g2:=Kd.R_lt (K.own a ha) k h1
  omega
 obtain rfl:=List.mem_singleton.1 hb'
 rcases List.mem_append.1 ha with ha|ha
 ·have g1:=Kd.R_base ho2 k h2
  have g2:=Kd.R_lt (K.own a ha) k h1
  omega
 obtain rfl:=List.mem_singleton.1 ha
 exact ho.1 k h1 h2.symm
theorem put (K:Kp w bs vs os W) (n:Nat) (hn:bs[n]? = some (g,cs,t)) (i:Nat) (x:Value) (e:bs.set n (g,cs.setIfInBounds i x,t)=bs'):Kp w bs' vs os (W.setCell ⟨g,i,none⟩ x):=by
 subst e
 have hm:=List.mem_of_getElem? hn
 have hlt:n<bs.length:=(List.getElem?_eq_some_iff.1 hn).1
 have hmap:(bs.set n (g,cs.setIfInBounds i x,t)).map (·.1)=bs.map (·.1):=by
  rw[List.map_set]
  refine List.ext_getElem? fun j=>?_
  rw[List.getElem?_set]
  by_cases hj:n=j
  ·subst hj
   simp[hn]
   exact hlt
  rw[if_neg hj]
 have hge:=(K.blk _ hm).1
 have hmem:∀k,(∀b∈bs,k≠b.1)↔∀b∈bs.set n (g,cs.setIfInBounds i x,t),k≠b.1:=fun k=>by
  have h1:∀l:List Bx,(∀b∈l,k≠b.1)↔k∉l.map (·.1):=fun l=>⟨fun h hm=>by obtain⟨b,hb,e⟩:=List.mem_map.1 hm;exact h b hb e.symm,fun h b hb e=>h (List.mem_map.2 ⟨b,hb,e.symm⟩)⟩
  rw[h1,h1,hmap]
 refine⟨below_set K.below hge,fun b hb=>?_,by rw[hmap];exact K.nod,fun v hv=>Kd.V_mono (Kd.V_far (p:=⟨g,i,none⟩) (K.val v hv) (fun k hk=>hk.2 _ hm) x) fun k hk=>⟨hk.1,(hmem k).1 hk.2⟩,fun v hv=>Kd.R_mono (Kd.R_far (p:=⟨g,i,none⟩) (K.own v hv) (fun k hk=>hk _ hm) x) fun k hk=>(hmem k).1 hk,K.sep⟩
 obtain⟨j,hj⟩:=List.getElem?_of_mem hb
 rw[List.getElem?_set]at hj
 by_cases hnj:n=j
 ·subst hnj
  rw[if_pos rfl,if_pos hlt]at hj
  obtain rfl:=Option.some.inj hj
  exact⟨hge,blk_put (K.blk _ hm).2 i x rfl⟩
 rw[if_neg hnj]at hj
 have hb':=List.mem_of_getElem? hj
 have hne:b.1≠g:=fun e=>hnj (by
  have h1:(bs.map (·.1))[n]? = some g:=by rw[List.getElem?_map,hn];rfl
  have h2:(bs.map (·.1))[j]? = some g:=by rw[List.getElem?_map,hj,←e];rfl
  exact(List.getElem?_inj (by simpa using hlt) K.nod).1 (h1.trans h2.symm))
 exact⟨(K.blk b hb').1,blk_far (K.blk b hb').2 (p:=⟨g,i,none⟩) hne x⟩
theorem sub (K:Kp w bs vs os W) (h:∀v∈vs',v∈vs):Kp w bs vs' os W:=⟨K.below,K.blk,K.nod,fun v hv=>K.val v (h v hv),K.own,K.sep⟩
theorem heap (K:Kp w bs vs os W) (n:Nat) (hn:bs[n]? = some (g,cs,t)):W.heap[g]? = some (.cells cs t (0,0)):=(K.blk _ (List.mem_of_getElem? hn)).2
theorem cell (K:Kp w bs vs os W) (n:Nat) (hn:bs[n]? = some (g,cs,t)) (i:Nat) {x:Value} (hx:cs[i]? = some x):W.cell? ⟨g,i,none⟩=some x:=(blk_cell (K.heap n hn) i).trans hx
theorem fz (K:Kp w bs vs os W) (n:Nat) (hn:bs[n]? = some (g,cs,t)) (i:Nat):W.frozen? ⟨g,i,none⟩=false:=blk_frozen (K.heap n hn) i
section
variable {α:Type} {kd:Kd α} {e:Nat} {v:Value} {xs:List α} {ok:Nat→Prop}
theorem V (K:Kp w bs vs os W) (n:Nat) (hn:vs[n]? = some ⟨kd,e,v,xs,ok⟩):Kd.V kd e W W.heap.size (KOk w.heap.size bs ok) v xs:=K.val _ (List.mem_of_getElem? hn)
theorem slice (K:Kp w bs vs os W) (n:Nat) (hn:vs[n]? = some ⟨kd,e,v,xs,ok⟩):∃A c,v=.slice A xs.length c:=Kd.V_slice (K.V n hn)
theorem C (K:Kp w bs vs os W) (n:Nat) {A:Option Addr} {c:Nat} (hn:vs[n]? = some ⟨kd,e,.slice A xs.length c,xs,ok⟩):Kd.C kd W A xs.length xs:=(Kd.V_reads' (K.V n hn)).2.2
theorem le (K:Kp w bs vs os W) (n:Nat) {A:Option Addr} {c:Nat} (hn:vs[n]? = some ⟨kd,e,.slice A xs.length c,xs,ok⟩):xs.length≤c:=(Kd.V_reads' (K.V n hn)).2.1
theorem hand (K:Kp w bs vs os W) (n:Nat) (hn:vs[n]? = some ⟨kd,e,v,xs,ok⟩) {P:Nat→Prop} (hP:∀k,ok k∨w.heap.size≤k→P k):Kd.V kd e W w.heap.size P v xs:=Kd.V_mono (K.V n hn) fun k hk=>hP k hk.1
theorem R (K:Kp w bs vs os W) (n:Nat) (hn:os[n]? = some ⟨kd,e,v,xs,ok⟩):kd.R e W w.heap.size (fun _=>True) v xs:=Kd.R_mono (K.own _ (List.mem_of_getElem? hn)) fun _ _=>trivial
theorem Rne (K:Kp w bs vs os W) (n:Nat) (hE:kd.E=[]) (hn:os[n]? = some ⟨kd,e,v,xs,ok⟩) {P:Nat→Prop} (hP:∀k,v.ownBlock=some k→P k):kd.R e W w.heap.size P v xs:=Kd.R_reok hE (K.own _ (List.mem_of_getElem? hn)) hP
theorem apart (K:Kp w bs vs os W) (n m:Nat) {β:Type} {kd2:Kd β} {e2:Nat} {v2:Value} {ys:List β} {ok2:Nat→Prop} (hn:os[n]? = some ⟨kd,e,v,xs,ok⟩) (hm:os[m]? = some ⟨kd2,e2,v2,ys,ok2⟩) (hne:n≠m):∀k,v.ownBlock=some k→some k≠v2.ownBlock:=by
 intro k h1 h2
 obtain⟨ln,en⟩:=List.getElem?_eq_some_iff.1 hn
 obtain⟨lm,em⟩:=List.getElem?_eq_some_iff.1 hm
 have hs:=List.pairwise_iff_getElem.1 K.sep
 rcases Nat.lt_or_gt_of_ne hne with h|h
 ·have:=hs n m ln lm h k (by rw[en];exact h1)
  rw[em]at this
  exact this h2.symm
 have:=hs m n lm ln h k (by rw[em];exact h2.symm)
 rw[en]at this
 exact this h1
end
end Kp
theorem mem_appI {α:Type _} {a b:α} {l m:List α} {i:Nat} (h:a∈m++l.insertIdx i b):a=b∨a∈m++l:=by
 rcases List.mem_append.1 h with h|h
 ·exact .inr (List.mem_append_left _ h)
 exact(mem_insI h).imp_right (List.mem_append_right _)
theorem perm_appI {α:Type _} {b:α} {l m:List α} {i:Nat} (hi:i≤l.length):(m++l.insertIdx i b).Perm (b::(m++l)):=
 ((List.perm_insertIdx b l hi).append_left m).trans List.perm_middle
namespace Kp
variable {w W W':World} {bs:List Bx} {vs vs' os l l':List KV}
theorem addI {α:Type} {kd:Kd α} {e base:Nat} {v:Value} {xs:List α} {ok:Nat→Prop} (i:Nat) (okn:Nat→Prop) (K:Kp w bs (vs++l) os W) (hb:Below W.heap.size W W') (ho:Kd.V kd e W' base (fun k=>ok k∨W.heap.size≤k) v xs) (hok:∀k,ok k→KOk w.heap.size bs okn k):Kp w bs (vs++l.insertIdx i ⟨kd,e,v,xs,okn⟩) os W':=by
 have K':=K.up hb
 refine⟨K'.below,K'.blk,K'.nod,fun x hx=>?_,K'.own,K'.sep⟩
 rcases mem_appI hx with rfl|hx
 ·exact Kd.V_lower (Kd.V_mono ho fun k hk=>hk.elim (hok k) fun h=>K.out h okn) (Nat.zero_le _)
 exact K'.val x hx
theorem addFI {α:Type} {kd:Kd α} {e base:Nat} {v:Value} {xs:List α} (i:Nat) (okn:Nat→Prop) (K:Kp w bs (vs++l) os W) (hb:Below W.heap.size W W') (ho:Kd.V kd e W' base (fun k=>W.heap.size≤k) v xs):Kp w bs (vs++l.insertIdx i ⟨kd,e,v,xs,okn⟩) os W':=
 K.addI (ok:=fun _=>False) i okn hb (Kd.V_mono ho fun _ h=>.inr h) fun _ h=>h.elim
theorem moreI {α:Type} {kd:Kd α} {e base:Nat} {v:Value} {xs:List α} {ok:Nat→Prop} (i:Nat) (okn:Nat→Prop) (K:Kp w bs vs' os W) (K2:Kp w bs (vs++l) os W') (ho:Kd.V kd e W' base (fun k=>ok k∨W.heap.size≤k) v xs) (hok:∀k,ok k→KOk w.heap.size bs okn k):Kp w bs (vs++l.insertIdx i ⟨kd,e,v,xs,okn⟩) os W':=by
 refine⟨K2.below,K2.blk,K2.nod,fun x hx=>?_,K2.own,K2.sep⟩
 rcases mem_appI hx with rfl|hx
 ·exact Kd.V_lower (Kd.V_mono ho fun k hk=>hk.elim (hok k) fun h=>K.out h okn) (Nat.zero_le _)
 exact K2.val x hx
theorem ownI {α:Type} {kd:Kd α} {e:Nat} {v:Value} {xs:List α} {ok:Nat→Prop} (i:Nat) (K:Kp w bs vs (os++l) W) (hb:Below W.heap.size W W') (ho:kd.R e W' W.heap.size ok v xs) (hi:i≤l.length):Kp w bs vs (os++l.insertIdx i ⟨kd,e,v,xs,fun _=>True⟩) W':=by
 have K':=K.up hb
 have hk1:∀k,W.heap.size≤k→∀b∈bs,k≠b.1:=fun k hk b hb e=>by have:=blk_lt (K.blk b hb).2;omega
 refine⟨K'.below,K'.blk,K'.nod,K'.val,fun x hx=>?_,?_⟩
 ·rcases mem_appI hx with rfl|hx
  ·exact Kd.R_lower (Kd.R_mono (Kd.R_bound ho) fun k hk=>hk1 k hk.2.1) (below_size K.below)
  exact K'.own x hx
 refine((perm_appI hi).symm.pairwise_iff (fun {_ _} h k h1 h2=>h k h2 h1)).1 (List.pairwise_cons.2 ⟨fun b hbm k h1 h2=>?_,K.sep⟩)
 have g1:=Kd.R_base ho k h1
 have g2:=Kd.R_lt (K.own b hbm) k h2
 omega
theorem addRI {α:Type} {kd:Kd α} {e:Nat} {v:Value} {xs:List α} {ok:Nat→Prop} (j i:Nat) (K:Kp w bs (vs++l) (os++l') W) (hb:Below W.heap.size W W') (ho:kd.R e W' W.heap.size ok v xs) (hi:i≤l'.length):Kp w bs (vs++l.insertIdx j ⟨kd,e,v,xs,fun _=>False⟩) (os++l'.insertIdx i ⟨kd,e,v,xs,fun _=>True⟩) W':=by
 have K1:=K.addFI (base:=0) j (fun _=>False) hb (Kd.V_mono (Kd.R_V (Kd.R_bound ho)) fun k hk=>hk.2.1)
 have K2:=K.ownI i hb ho hi
 exact⟨K2.below,K2.blk,K2.nod,K1.val,K2.own,K2.sep⟩
theorem addRE {α:Type} {kd:Kd α} {e:Nat} {v:Value} {xs:List α} {ok:Nat→Prop} (K:Kp w bs vs os W) (hb:Below W.heap.size W W') (ho:kd.R e W' W.heap.size ok v xs):Kp w bs (vs++[⟨kd,e,v,xs,fun _=>False⟩]) (os++[⟨kd,e,v,xs,fun _=>True⟩]) W':=by
 have K0:Kp w bs (vs++[]) (os++[]) W:=by simpa using K
 exact K0.addRI 0 0 hb ho (Nat.le_refl _)
end Kp
theorem KOk.t {n k:Nat} {bs:List Bx} {ok:Nat→Prop} (h:KOk n bs ok k):KOk n bs (fun _=>True) k:=⟨.inl trivial,h.2⟩
theorem KOk.l {n k:Nat} {bs:List Bx} {ok ok2:Nat→Prop} (h:KOk n bs ok k):KOk n bs (fun k=>ok k∨ok2 k) k:=⟨h.1.elim (fun h=>.inl (.inl h)) .inr,h.2⟩
theorem KOk.r {n k:Nat} {bs:List Bx} {ok ok2:Nat→Prop} (h:KOk n bs ok2 k):KOk n bs (fun k=>ok k∨ok2 k) k:=⟨h.1.elim (fun h=>.inl (.inr h)) .inr,h.2⟩
namespace Kp
variable {w W W':World} {bs bs':List Bx} {vs vs' os os':List KV} {g:Nat} {cs:Array Value} {t:TypeId}
theorem addF {α:Type} {kd:Kd α} {e base:Nat} {v:Value} {xs:List α} (okn:Nat→Prop) (K:Kp w bs vs os W) (hb:Below W.heap.size W W') (ho:Kd.V kd e W' base (fun k=>W.heap.size≤k) v xs):Kp w bs (vs++[⟨kd,e,v,xs,okn⟩]) os W':=
 K.add (ok:=fun _=>False) okn hb (Kd.V_mono ho fun _ h=>.inr h) fun _ h=>h.elim
theorem more {α:Type} {kd:Kd α} {e base:Nat} {v:Value} {xs:List α} {ok:Nat→Prop} (okn:Nat→Prop) (K:Kp w bs vs os W) (K2:Kp w bs vs' os W') (ho:Kd.V kd e W' base (fun k=>ok k∨W.heap.size≤k) v xs) (hok:∀k,ok k→KOk w.heap.size bs okn k):Kp w bs (vs'++[⟨kd,e,v,xs,okn⟩]) os W':=by
 refine⟨K2.below,K2.blk,K2.nod,fun x hx=>?_,K2.own,K2.sep⟩
 rcases List.mem_append.1 hx with hx|hx
 ·exact K2.val x hx
 obtain rfl:=List.mem_singleton.1 hx
 exact Kd.V_lower (Kd.V_mono ho fun k hk=>hk.elim (hok k) fun h=>K.out h okn) (Nat.zero_le _)
theorem cell2 (K:Kp w bs vs os W) (n:Nat) {x y:Value} (hn:bs[n]? = some (g,#[x,y],t)):W.cell? ⟨g,0,none⟩=some x∧W.cell? ⟨g,1,none⟩=some y:=⟨K.cell n hn 0 rfl,K.cell n hn 1 rfl⟩
theorem abs (K:Kp w bs vs os W):∃B V O,Aside0 (B=bs)∧Aside0 (V=vs)∧Aside0 (O=os)∧Kp w (B++[]) (V++[]) (O++[]) W:=⟨bs,vs,os,⟨rfl⟩,⟨rfl⟩,⟨rfl⟩,by simpa using K⟩
theorem put2 (K:Kp w bs vs os W) (n:Nat) {x y:Value} (x' y':Value) (hn:bs[n]? = some (g,#[x,y],t)):Kp w (bs.set n (g,#[x',y'],t)) vs os ((W.setCell ⟨g,0,none⟩ x').setCell ⟨g,1,none⟩ y'):=by
 have hlt:n<bs.length:=(List.getElem?_eq_some_iff.1 hn).1
 have K1:=K.put n hn 0 x' rfl
 have K2:=K1.put n (g:=g) (cs:=#[x',y]) (t:=t) (by rw[List.getElem?_set_self hlt];rfl) 1 y' rfl
 rw[List.set_set]at K2
 exact K2
variable {w W W':World} {bs:List Bx} {vs vs' os os' l l':List KV}
theorem permO (K:Kp w bs vs os W) (hp:os.Perm os'):Kp w bs vs os' W:=
 ⟨K.below,K.blk,K.nod,K.val,fun v h=>K.own v (hp.mem_iff.2 h),(hp.pairwise_iff (fun {_ _} h k h1 h2=>h k h2 h1)).1 K.sep⟩
theorem addR2I {α β:Type} {kd:Kd α} {kd2:Kd β} {e e2:Nat} {v v2:Value} {xs:List α} {xs2:List β} (j i:Nat) (K:Kp w bs (vs++l) (os++l') W) (hb:Below W.heap.size W W') (ho:kd.R e W' W.heap.size (fun k=>some k≠v2.ownBlock) v xs) (ho2:kd2.R e2 W' W.heap.size (fun k=>some k≠v.ownBlock) v2 xs2) (hi:i≤l'.length) :
  Kp w bs (vs++(l.insertIdx j ⟨kd,e,v,xs,fun _=>False⟩).insertIdx (j+1) ⟨kd2,e2,v2,xs2,fun _=>False⟩) (os++(l'.insertIdx i ⟨kd,e,v,xs,fun _=>True⟩).insertIdx (i+1) ⟨kd2,e2,v2,xs2,fun _=>True⟩) W':=by
 have K1:=K.addR2 hb ho ho2
 refine(K1.sub (fun x hx=>?_)).permO ?_
 ·simp only[List.mem_append,List.mem_singleton]
  rcases mem_appI hx with h|h
  ·exact .inr h
  rcases mem_appI h with h|h
  ·exact .inl (.inr h)
  exact .inl (.inl (List.mem_append.1 h))
 have h1:i+1≤(l'.insertIdx i ⟨kd,e,v,xs,fun _=>True⟩).length:=by rw[List.length_insertIdx_of_le_length hi];omega
 have h2:=((perm_appI (m:=os) (b:=(⟨kd2,e2,v2,xs2,fun _=>True⟩:KV)) h1).trans ((perm_appI (m:=os) hi).cons _)).symm
 refine List.Perm.trans ?_ h2
 refine List.Perm.trans List.perm_append_comm ?_
 exact(List.perm_append_comm (l₂:=[(⟨kd,e,v,xs,fun _=>True⟩:KV)])).cons _
end Kp
section
variable {P:Program} {ops:Array Oper} {Q:Exit→Act→World→Prop} {rest:List Oper} {o:Oper} {a:Act} {w W:World} {bs vs os} {g t:Nat} {a0 b0:Value} {md:Region.Mode} {S:World→Prop} {ds:List Nat}
theorem kst2 (n:Nat) (x y:Value) (K:Kp w bs vs os W) (hn:bs[n]? = some (g,#[a0,b0],t))
  (hrun:W.cell? ⟨g,0,none⟩=some a0→W.cell? ⟨g,1,none⟩=some b0→W.frozen? ⟨g,0,none⟩=false→W.frozen? ⟨g,1,none⟩=false→(execOp a.eval o).run P W=.ok .skip ((W.setCell ⟨g,0,none⟩ x).setCell ⟨g,1,none⟩ y))
  (h:∀W1,Kp w (bs.set n (g,#[x,y],t)) vs os W1→wpList P ops Q rest a W1) (hd:o.dst=none:=by rfl) (hgd:o.guard=none:=by rfl):wpList P ops Q (o::rest) a W:=
 wpList_plain hgd fun K' hK=>by
  have c:=K.cell2 n hn
  unfold Oper.wp
  rw[hrun c.1 c.2 (K.fz n hn 0) (K.fz n hn 1)]
  show K' (a.put o.dst undef) _
  rw[hd]
  exact hK _ _ (h _ (K.put2 n x y hn))
theorem klast2 {i:Nat} {oi:Oper} {fuel:Nat} {l:Array Bool} (l':Array Bool) (n:Nat) (x y:Value) (K:Kp w bs vs os W) (hn:bs[n]? = some (g,#[a0,b0],t)) (hi:ops[i]? = some oi) (hN:oi.dst=none) (hc:readyB md ops l l' i=true) (hd:i∈ds) (hw:Region.wanted oi (yielded ops a.tmps)=true)
  (hrun:W.cell? ⟨g,0,none⟩=some a0→W.cell? ⟨g,1,none⟩=some b0→W.frozen? ⟨g,0,none⟩=false→W.frozen? ⟨g,1,none⟩=false→(execOp a.eval oi).run P W=.ok .skip ((W.setCell ⟨g,0,none⟩ x).setCell ⟨g,1,none⟩ y))
  (h:∀W1,Kp w (bs.set n (g,#[x,y],t)) vs os W1→wpAnyLast P md ops Q S ds fuel l' a W1):wpAnyLast P md ops Q S ds (fuel+1) l a W:=by
 have c:=K.cell2 n hn
 refine last_ l' hi hN hc hd fun K' hK=>skip_ hw hN (hrun c.1 c.2 (K.fz n hn 0) (K.fz n hn 1)) ?_
 exact hK.out _ _ (h _ (K.put2 n x y hn))
theorem kone2 {i:Nat} {oi:Oper} {fuel:Nat} {l:Array Bool} (l':Array Bool) (n:Nat) (x y:Value) (K:Kp w bs vs os W) (hn:bs[n]? = some (g,#[a0,b0],t)) (hi:ops[i]? = some oi) (hN:oi.dst=none) (hc:readyB md ops l l' i=true) (hd:i∉ds) (hw:Region.wanted oi (yielded ops a.tmps)=true)
  (hrun:W.cell? ⟨g,0,none⟩=some a0→W.cell? ⟨g,1,none⟩=some b0→W.frozen? ⟨g,0,none⟩=false→W.frozen? ⟨g,1,none⟩=false→(execOp a.eval oi).run P W=.ok .skip ((W.setCell ⟨g,0,none⟩ x).setCell ⟨g,1,none⟩ y))
  (hS:∀W1,Kp w (bs.set n (g,#[x,y],t)) vs os W1→S W1) (h:∀W1,Kp w (bs.set n (g,#[x,y],t)) vs os W1→wpAnyLast P md ops Q S ds fuel l' a W1):wpAnyLast P md ops Q S ds (fuel+1) l a W:=by
 have c:=K.cell2 n hn
 refine one_ l' hi hN hc hd fun K' hK=>skip_ hw hN (hrun c.1 c.2 (K.fz n hn 0) (K.fz n hn 1)) ?_
 exact hK.out _ _ (hS _ (K.put2 n x y hn)) fun _=>h _ (K.put2 n x y hn)
end
section
variable {P:Program} {ops:Array Oper} {Q:Exit→Act→World→Prop} {rest:List Oper} {o:Oper} {a:Act} {w W:World} {bs:List Bx} {vs os:List KV} {g t:Nat} {a0 b0:Value} {md:Region.Mode} {S:World→Prop} {ds:List Nat}
theorem ks2 (n:Nat) (x y:Value) (K:Kp w bs vs os W) (hn:bs[n]? = some (g,#[a0,b0],t)) (h:∀W1,Kp w (bs.set n (g,#[x,y],t)) vs os W1→wpList P ops Q rest a W1) (hd:o.dst=none:=by rfl) (hgd:o.guard=none:=by rfl)
 (hrun:W.cell? ⟨g,0,none⟩=some a0→W.cell? ⟨g,1,none⟩=some b0→W.frozen? ⟨g,0,none⟩=false→W.frozen? ⟨g,1,none⟩=false→(execOp a.eval o).run P W=.ok .skip ((W.setCell ⟨g,0,none⟩ x).setCell ⟨g,1,none⟩ y):=by intro c0 c1 f0 f1;first|(go_simp;done)|(go_simp;rfl)):wpList P ops Q (o::rest) a W:=kst2 n x y K hn hrun h hd hgd
theorem ko2 {i:Nat} {oi:Oper} {fuel:Nat} {l:Array Bool} (l':Array Bool) (n:Nat) (x y:Value) (K:Kp w bs vs os W) (hn:bs[n]? = some (g,#[a0,b0],t)) (hi:ops[i]? = some oi) (hN:oi.dst=none) (hc:readyB md ops l l' i=true) (hd:i∉ds) (hw:Region.wanted oi (yielded ops a.tmps)=true)
 (hS:∀W1,Kp w (bs.set n (g,#[x,y],t)) vs os W1→S W1) (h:∀W1,Kp w (bs.set n (g,#[x,y],t)) vs os W1→wpAnyLast P md ops Q S ds fuel l' a W1) (hrun:W.cell? ⟨g,0,none⟩=some a0→W.cell? ⟨g,1,none⟩=some b0→W.frozen? ⟨g,0,none⟩=false→W.frozen? ⟨g,1,none⟩=false→(execOp a.eval oi).run P W=.ok .skip ((W.setCell ⟨g,0,none⟩ x).setCell ⟨g,1,none⟩ y):=by intro c0 c1 f0 f1;first|(go_simp;done)|(go_simp;rfl)):wpAnyLast P md ops Q S ds (fuel+1) l a W:=kone2 l' n x y K hn hi hN hc hd hw hrun hS h
theorem kbk {rest:List Oper} {o:Oper} (N:Tmp) (cs:Array Value) (t:TypeId) (K:Kp w bs vs os W) (h:∀g W1,Kp w (bs++[(g,cs,t)]) vs os W1→wpList P ops Q rest (a.put o.dst (.pointer (some ⟨g,0,none⟩))) W1)
 (hd:o.dst=some N:=by rfl) (hgd:o.guard=none:=by rfl) (hrun:(execOp a.eval o).run P W=.ok (.value (.pointer (some ⟨W.heap.size,0,none⟩))) (W.alloc (.cells cs t (0,0))):=by first|(go_simp;done)|(go_simp;rfl)):wpList P ops Q (o::rest) a W:=
 kbe N cs t (fun g hg w1 hx hb=>h g w1 (K.box hg hx hb)) hd hgd hrun
end
theorem kpstart {P:Program} {ops:Array Oper} {Q:Exit→Act→World→Prop} {S:World→Prop} {ds:List Nat} {id n:Nat} {a:Act} {w W W0:World} {bs:List Bx} {vs os:List KV} [u:UpO W0 W] (l:Array Bool) (hm:P.follows .mixedOrders=true) (hn:ops.size=n) (hl:Array.replicate n false=l)
  (K:Kp w bs vs os W0) (hS:∀W',Kp w bs vs os W'→S W') (h:∀W',Kp w bs vs os W'→S W'→wpAnyLast P .any ops Q S ds n l a W'):(Code.region id ops true).wp P Q a W:=
 start_ l hm hn hl (hS _ (K.up (below_drew u.below))) fun h'=>h _ (K.up (below_drew u.below)) h'
theorem klv:(∀l:List KV,[]++l=l)∧(∀(x:KV) (l m:List KV),x::l++m=x::(l++m)):=
 ⟨fun _=>rfl,fun _ _ _=>rfl⟩
end Go.Proofs.YtncomlmhagaajaaGreat.Mine
namespace Go.Proofs.YtncomlmhagaajaaGreat.Mine
open Go.RowKit Go.Proofs.YtncomlmhagaajaaGreatW.PrintWords Go.Proofs.YtncomlmhagaajaaGreatW.PrintLast Go.Proofs.YtncomlmhagaajaaGreatW.PrintMore
theorem minfo59:(Tryz.prog.info? 48).map (fun i=>(i.zero,i.size,i.bytes))=some (some (.int .u64 0),1,8):=by kernel_rfl
def api_Nat_uint64.f (l0:List Int):Option (List Int):=if l0.length<17592186044416 then some l0 else none
set_option maxHeartbeats 1000000 in
theorem api_Nat_uint64.calls (A0:Option Addr) (c0:Nat) (l0:List Int) (r:List Int) (w:World) (hr0:Kd.C (Kd.int .u64) w A0 l0.length l0) (hc0:l0.length≤c0) (h:api_Nat_uint64.f l0=some r) :
  Calls Tryz.prog 91 #[.slice A0 l0.length c0] w fun e w'=>∃v0_:Value,e=.returned (v0_)∧Kd.R (Kd.int .u64) 48 w' w.heap.size (fun _=>True) v0_ r∧Below w.heap.size w w':=by
 unfold api_Nat_uint64.f at h
 split at h
 ·rename_i hlen
  obtain rfl:=Option.some.inj h
  clear h
  have HR0:=Aside0.mk hr0
  have HC0:=Aside0.mk hc0
  have HL:=Aside0.mk hlen
  clear hc0 hlen
  rcases A0 with _|a
  ·have hl:l0=[]:=by
    rcases l0 with _|⟨x,l⟩
    ·rfl
    obtain⟨ad,he,_⟩:=Kd.at_int hr0 0 Y0 F1
    cases he
   subst hl
   clear hr0
   have hn:=fun(w:World)=>_root_.Go.run_eql_slice_nil (P:=Tryz.prog) w 26 48 none 0 c0 Tryz.underlying26
   go_enter Tryz.func91,Tryz.ntmps91
   go_wp2
   go_ret
   exact⟨_,rfl,Kd.R_nil _ _ _ _ _,Below.refl _ _⟩
  clear hr0
  have hn:=fun(w:World)=>_root_.Go.run_eql_slice_nil (P:=Tryz.prog) w 26 48 (some a) l0.length c0 Tryz.underlying26
  go_enter Tryz.func91,Tryz.ntmps91
  go_wp2_with (first
   | ((with_reducible refine gate_dst (N:=5) rfl ?_);refine Kd.R_lit (Kd.int .u64) _ 48 ?hg (N:=5) ?hd (xs:=([]:List Int)) (inner:=[]) (ok:=fun _=>True) (okp:=fun _=>True) ?hr ?hp (fun _ hk=>hk) trivial (Below.refl _ _) (Nat.le_refl _) F1 ?_;(case hd=>rfl);(case hg=>rfl);(case hr=>first|(go_simp;done)|(go_simp;rfl));(case hp=>exact(Reps.none _ _));intro v1 w1 ho hb hg_ hnew_;clear hg_ hnew_;have HO:=Aside0.mk ho;have HB:=Aside0.mk hb;clear ho hb;obtain⟨Ao,co,eo⟩:=Kd.R_slice HO.out;subst eo)
   | ((with_reducible refine gate_builtin (b:=.append) (xs:=#[.tmp 5,.tmp 6]) rfl ?_);at_builtin;refine Kd.R_append_rows (Kd.int .u64) (w0:=w) w.heap.size rfl (.tmp 5) (.tmp 6) 26 48 (.int .u64 0) 8 rfl Tryz.underlying26 minfo59 rfl X0 Y0 (.slice Ao ([]:List Int).length co) [] l0 _ _ _ (fun _=>True) (fun _=>False) rfl rfl ?aO ?aR (fun _ _ h=>h) (fun _ h=>h.elim) ?aF ?aB ?aS ?aL ?_;(case aR=>exact Kd.C_below HR0.out HB.out);(case aB=>exact HB.out);(case aF=>exact fun _ _=>trivial);(case aO=>exact HO.out);(case aS=>exact below_size HB.out);(case aL=>have:=HL.out;simp only[List.length_nil];omega);intro v2 w2 ho hb hg hat;have HO2:=Aside0.mk ho;have HB2:=Aside0.mk hb;clear ho hb hg hat;simp only[List.nil_append]at HO2;obtain⟨Ao2,co2,eo2⟩:=Kd.R_slice HO2.out;subst eo2))
  go_ret
  exact⟨_,rfl,HO2.out,HB2.out⟩
 cases h
end Go.Proofs.YtncomlmhagaajaaGreat.Mine
namespace Go.Proofs
open Go.Shelf
def Tryz.lays134_ren:Go.Shelf.Ren:=⟨fun|134=>170|129=>97|n=>n,fun|53=>48|3=>3|4=>4|46=>94|5=>5|9=>9|n=>n,fun|n=>n⟩
theorem Tryz.lays134:Go.Proofs.Lays.n134 Tryz.prog Tryz.lays134_ren:={
 mixed:=by kernel_rfl
 f129:=Tryz.func97.trans (congrArg some (by kernel_rfl))
 f134:=Tryz.func170.trans (congrArg some (by kernel_rfl))
 t3:=Tryz.underlying3
 a3:=Tryz.isAgg3
 z3:=Tryz.sizeOf3
 v3:=Tryz.zeroValue3
 t4:=Tryz.underlying4
 a4:=Tryz.isAgg4
 z4:=Tryz.sizeOf4
 v4:=Tryz.zeroValue4
 t5:=Tryz.underlying5
 a5:=Tryz.isAgg5
 z5:=Tryz.sizeOf5
 v5:=Tryz.zeroValue5
 t9:=Tryz.underlying9
 a9:=Tryz.isAgg9
 z9:=Tryz.sizeOf9
 v9:=Tryz.zeroValue9
 t46:=Tryz.underlying94
 a46:=Tryz.isAgg94
 z46:=Tryz.sizeOf94
 v46:=Tryz.zeroValue94
 t53:=Tryz.underlying48
 a53:=Tryz.isAgg48
 z53:=Tryz.sizeOf48
 v53:=Tryz.zeroValue48}
theorem Tryz.bits_LeadingZeros64 (x:Int) (w:World) (h0:0≤x) (h1:x≤18446744073709551615) :
  Calls Tryz.prog 170 #[.int .u64 x] w fun e w'=>e=.returned (.int .i64 (64-(Lib.bitLen x.toNat:Int)))∧w'=w:=Any.bits_LeadingZeros64 Tryz.lays134 x w h0 h1
def Tryz.lays129_ren:Go.Shelf.Ren:=⟨fun|129=>97|n=>n,fun|53=>48|3=>3|4=>4|46=>94|5=>5|9=>9|n=>n,fun|n=>n⟩
theorem Tryz.lays129:Go.Proofs.Lays.n129 Tryz.prog Tryz.lays129_ren:={
 mixed:=by kernel_rfl
 f129:=Tryz.func97.trans (congrArg some (by kernel_rfl))
 t3:=Tryz.underlying3
 a3:=Tryz.isAgg3
 z3:=Tryz.sizeOf3
 v3:=Tryz.zeroValue3
 t4:=Tryz.underlying4
 a4:=Tryz.isAgg4
 z4:=Tryz.sizeOf4
 v4:=Tryz.zeroValue4
 t5:=Tryz.underlying5
 a5:=Tryz.isAgg5
 z5:=Tryz.sizeOf5
 v5:=Tryz.zeroValue5
 t9:=Tryz.underlying9
 a9:=Tryz.isAgg9
 z9:=Tryz.sizeOf9
 v9:=Tryz.zeroValue9
 t46:=Tryz.underlying94
 a46:=Tryz.isAgg94
 z46:=Tryz.sizeOf94
 v46:=Tryz.zeroValue94
 t53:=Tryz.underlying48
 a53:=Tryz.isAgg48
 z53:=Tryz.sizeOf48
 v53:=Tryz.zeroValue48}
theorem Tryz.bits_Len64 (x:Int) (w:World) (h0:0≤x) (h1:x≤18446744073709551615) :
  Calls Tryz.prog 97 #[.int .u64 x] w fun e w'=>e=.returned (.int .i64 (Lib.bitLen x.toNat))∧w'=w:=Any.bits_Len64 Tryz.lays129 x w h0 h1
def Tryz.lays264_ren:Go.Shelf.Ren:=⟨fun|264=>173|n=>n,fun|53=>48|46=>94|n=>n,fun|n=>n⟩
theorem Tryz.lays264:Go.Proofs.Lays.n264 Tryz.prog Tryz.lays264_ren:={
 mixed:=by kernel_rfl
 f264:=Tryz.func173.trans (congrArg some (by kernel_rfl))
 t46:=Tryz.underlying94
 a46:=Tryz.isAgg94
 z46:=Tryz.sizeOf94
 v46:=Tryz.zeroValue94
 t53:=Tryz.underlying48
 a53:=Tryz.isAgg48
 z53:=Tryz.sizeOf48
 v53:=Tryz.zeroValue48}
open Go.RowKit Go.Lib in
theorem Tryz.bits_Mul64 (x y:Nat) (hx:x<18446744073709551616) (hy:y<18446744073709551616) (w:World) :
  Calls Tryz.prog 173 #[.int .u64 x,.int .u64 y] w fun e w'=>e=.returned (.tuple #[.int .u64 ((x*y/18446744073709551616:Nat):Int),.int .u64 ((x*y%18446744073709551616:Nat):Int)])∧w'=w:=Any.bits_Mul64 Tryz.lays264 x y hx hy w
def Tryz.laysSlH8_f66_ren:Go.Shelf.Ren:=⟨fun|8=>66|6=>140|n=>n,fun|22=>23|23=>3|25=>104|4=>4|3=>3|0=>0|n=>n,fun|n=>n⟩
theorem Tryz.laysSlH8_f66:Go.Proofs.SlLaysH.n8 Tryz.prog Tryz.laysSlH8_f66_ren:={
 mixed:=by kernel_rfl
 f6:=⟨Tryz.f140.name,by decide,Tryz.func140.trans (congrArg some (by kernel_rfl))⟩
 f8:=⟨Tryz.f66.name,by decide,Tryz.func66.trans (congrArg some (by kernel_rfl))⟩
 t0:=Tryz.underlying0
 a0:=Tryz.isAgg0
 z0:=Tryz.sizeOf0
 v0:=Tryz.zeroValue0
 t3:=Tryz.underlying3
 a3:=Tryz.isAgg3
 z3:=Tryz.sizeOf3
 v3:=Tryz.zeroValue3
 t4:=Tryz.underlying4
 a4:=Tryz.isAgg4
 z4:=Tryz.sizeOf4
 v4:=Tryz.zeroValue4
 t22:=Tryz.underlying23
 a22:=Tryz.isAgg23
 z22:=Tryz.sizeOf23
 v22:=Tryz.zeroValue23
 a23:=Tryz.isAgg3
 z23:=Tryz.sizeOf3
 t25:=Tryz.underlying104
 a25:=Tryz.isAgg104
 z25:=Tryz.sizeOf104
 v25:=Tryz.zeroValue104}
open Go.RowKit Go.Lib in
theorem Tryz.slices_ContainsFunc {α:Type} [Inhabited α] (enc:α→Value) (p:α→Bool) (g:Nat) (lb:Array Value) (eg:∀args w,(callFunc g args).run Tryz.prog w=.ok (.enter g args) w) (b off n c:Nat) (zs:List α) (w:World) (hp:PredAt Tryz.prog g lb enc p w) (hz:n≤zs.length) (hbig:n≤9223372036854775807) (hc:∀j,j<zs.length→w.cell? ⟨b,off+j,none⟩=some (enc zs[j]!)) :
  Calls Tryz.prog 66 #[.slice (some ⟨b,off,none⟩) n c,.func (.func g) #[] lb] w fun e w'=>e=.returned (.bool ((zs.take n).any p))∧∃q,w'=w.drewN q:=AnyE.slices_ContainsFunc Tryz.laysSlH8_f66 enc p g lb eg b off n c zs w hp hz hbig hc
end Go.Proofs
namespace Go.Proofs.YtncomlmhagaajaaGreat.Mine
open Go.RowKit Go.Proofs.YtncomlmhagaajaaGreatW.PrintWords Go.Proofs.YtncomlmhagaajaaGreatW.PrintLast Go.Proofs.YtncomlmhagaajaaGreatW.PrintMore
def bits_LeadingZeros64.f (x:Int):Option Int:=if 0≤x∧x≤18446744073709551615 then some (64-(Lib.bitLen x.toNat:Int)) else none
theorem bits_LeadingZeros64.calls (a0:Int) (r:Int) (w:World) (h:bits_LeadingZeros64.f a0=some r) :
  Calls Tryz.prog 170 #[.int .u64 a0] w fun e w'=>e=.returned (.int .i64 r)∧Drawn0 w w':=by
 unfold bits_LeadingZeros64.f at h
 split at h
 ·rename_i hc
  obtain rfl:=Option.some.inj h
  refine(Tryz.bits_LeadingZeros64 a0 w hc.1 hc.2).mono ?_
  rintro e w' ⟨rfl,rfl⟩
  exact⟨rfl,Drawn0.refl _⟩
 cases h
def bits_Len64.f (x:Int):Option Int:=if 0≤x∧x≤18446744073709551615 then some (Lib.bitLen x.toNat:Int) else none
theorem bits_Len64.calls (a0:Int) (r:Int) (w:World) (h:bits_Len64.f a0=some r) :
  Calls Tryz.prog 97 #[.int .u64 a0] w fun e w'=>e=.returned (.int .i64 r)∧Drawn0 w w':=by
 unfold bits_Len64.f at h
 split at h
 ·rename_i hc
  obtain rfl:=Option.some.inj h
  refine(Tryz.bits_Len64 a0 w hc.1 hc.2).mono ?_
  rintro e w' ⟨rfl,rfl⟩
  exact⟨rfl,Drawn0.refl _⟩
 cases h
end Go.Proofs.YtncomlmhagaajaaGreat.Mine
namespace Go.Proofs.YtncomlmhagaajaaGreat.PBo
open Go.RowKit Go.Proofs.YtncomlmhagaajaaGreatW.PrintWords Go.Proofs.YtncomlmhagaajaaGreatW.PrintLast Go.Proofs.YtncomlmhagaajaaGreatW.PrintMore
open Go.Proofs.YtncomlmhagaajaaGreat.Mine
attribute [local go_sem] max2_int min2_int max_two min_two max_three min_three max_four min_four
def errW:Option Int→Value
 | none=>.nilIface
 | some c=>.iface 0 (.int .i64 c)
theorem errW_none:errW none=.nilIface:=rfl
theorem errW_some (c:Int):errW (some c)=.iface 0 (.int .i64 c):=rfl
theorem info48:(Tryz.prog.info? 48).map (fun i=>(i.zero,i.size,i.bytes))=some (some (.int .u64 0),1,8):=by kernel_rfl
def rd_L1 (xs:List (List Int)) (i:Int):(List Int):=xs.getD i.toNat ([]:List Int)
theorem at_L1 {w:World} {A:Option Addr} {n:Nat} {xs:List (List Int)} (h:Kd.C (Kd.slice 48 (Kd.int .u64)) w A n xs) (i:Int) (h0:0≤i) (h1:i<n):∃ad A0 c0,A=some ad∧w.cell? (ad.add i.toNat)=some (.slice A0 (rd_L1 xs i).length c0)∧(rd_L1 xs i).length≤c0∧(Kd.int .u64).C w A0 (rd_L1 xs i).length (rd_L1 xs i):=by
 obtain⟨ad,c,e,_,hK,hc0⟩:=Kd.C_get h ([]:List Int) i h0 h1
 have hc:∀j u,c[j]? = some u→w.cell? (ad.add (i.toNat*1+j))=some u:=hc0
 obtain⟨A0,c0,rfl,l0,g0⟩:=hK
 exact⟨ad,A0,c0,e,by have hq:=hc 0 _ rfl;rwa [Nat.mul_one,Nat.add_zero]at hq,l0,g0⟩
structure S28 where
 f0:Int
 f1:(List Int)
def z28:S28:=⟨(0:Int),([]:List Int)⟩
def k28:Kd S28:=Kd.iso (Kd.pair (Kd.int .i64) (Kd.slice 48 (Kd.int .u64))) (fun x:S28=>(x.f0,x.f1))
theorem k28_open {w:World} {x:S28} {cs:List Value} (h:k28.K w x cs):∃A1 c1,cs=[.int .i64 x.f0,.slice A1 x.f1.length c1]∧x.f1.length≤c1∧(Kd.int .u64).C w A1 x.f1.length x.f1:=by
 obtain⟨_,_,rfl,rfl,⟨A1,c1,rfl,l1,g1⟩⟩:=h
 exact⟨A1,c1,rfl,l1,g1⟩
theorem k28_mk (w:World) (x:S28) {A1:Option Addr} {c1:Nat} (l1:x.f1.length≤c1) (g1:(Kd.int .u64).C w A1 x.f1.length x.f1):k28.K w x [.int .i64 x.f0,.slice A1 x.f1.length c1]:=⟨[.int .i64 x.f0],[.slice A1 x.f1.length c1],rfl,rfl,⟨A1,c1,rfl,l1,g1⟩⟩
theorem k28_mkF (W:World) (ok:Nat→Prop) (x:S28) {A1:Option Addr} {c1:Nat} (l1:x.f1.length≤c1) (g1:Kd.F (Kd.int .u64) W ok A1 x.f1.length x.f1):Kd.FK k28 W ok x [.int .i64 x.f0,.slice A1 x.f1.length c1]:=fun W2 hW=>k28_mk W2 x l1 (g1 W2 hW)
def whole_trimmed.l0:Nat→List Int→Int→Option (List Int)
 | 0,_,_=>none
 | k+1,x0,x3=>if x3>0 then(if 0≤(wrap64 (x3-1)) then(if(wrap64 (x3-1))<(x0.length:Int) then(if(rd x0 (wrap64 (x3-1)))=0 then(whole_trimmed.l0 k x0 (wrap64 (x3-1))) else(if 0≤x3 then(if x3≤(x0.length:Int) then(some (x0.take (x3:Int).toNat)) else(none)) else(none))) else(none)) else(none)) else(if 0≤x3 then(if x3≤(x0.length:Int) then(some (x0.take (x3:Int).toNat)) else(none)) else(none))
def whole_trimmed.f (k:Nat) (l0:List Int):Option (List Int):=whole_trimmed.l0 k l0 (l0.length:Int)
theorem whole_trimmed.mono_l:∀k,(∀y0 y1,LeO (whole_trimmed.l0 k y0 y1) (whole_trimmed.l0 (k+1) y0 y1))
 | 0=>fun _ _ r h=>by simp[whole_trimmed.l0]at h
 | k+1=>by
  have ih0:=whole_trimmed.mono_l k
  intro y0 y1
  unfold whole_trimmed.l0
  repeat' first
  | (with_reducible exact ih0 _ _)
  | (with_reducible exact LeO.refl _)
  | (with_reducible exact LeO.none _)
  | (with_reducible refine LeO.ite ?_ ?_)
  | (with_reducible refine LeO.bind ?_ (fun _=>?_))
  | exact ih0 _ _
  | exact LeO.none _
  | refine LeO.ite ?_ ?_
  | refine LeO.bind ?_ (fun _=>?_)
theorem whole_trimmed.mono:∀a0 k,LeO (whole_trimmed.f k a0) (whole_trimmed.f (k+1) a0):=by
 intro a0 k
 have ih0:=whole_trimmed.mono_l k
 unfold whole_trimmed.f
 repeat' first
   | (with_reducible exact ih0 _ _)
   | (with_reducible exact LeO.refl _)
   | (with_reducible exact LeO.none _)
   | (with_reducible refine LeO.ite ?_ ?_)
   | (with_reducible refine LeO.bind ?_ (fun _=>?_))
   | exact ih0 _ _
   | exact LeO.none _
   | refine LeO.ite ?_ ?_
   | refine LeO.bind ?_ (fun _=>?_)
theorem whole_trimmed.calls (k:Nat) (P0_:Nat→Prop) (A0:Option Addr) (c0:Nat) (l0:List Int) (r:List Int) (w:World) (hs0:Kd.V (Kd.int .u64) 48 w w.heap.size (fun k_=>P0_ k_) (.slice A0 l0.length c0) l0) (h:whole_trimmed.f k l0=some r) :
  Calls Tryz.prog 93 #[.slice A0 l0.length c0] w fun e w'=>∃v0_:Value,e=.returned (v0_)∧Kd.V (Kd.int .u64) 48 w' w.heap.size (fun k_=>(P0_ k_∨w.heap.size≤k_)) v0_ r∧Below w.heap.size w w':=by
 have HO0:=Aside0.mk (show Kd.V (Kd.int .u64) 48 w w.heap.size (fun k_=>(P0_ k_∨w.heap.size≤k_)) (.slice A0 l0.length c0) l0 from Kd.V_mono hs0 (fun k_ hk=>.inl hk))
 have HB:=Aside0.mk (Below.refl w.heap.size w)
 have H:(whole_trimmed.l0 k l0 (l0.length:Int))=some r:=h
 clear h
 have H':=Aside0.mk H
 clear H
 go_enter Tryz.func93,Tryz.ntmps93
 go_wp2
 go_loopg [3] k (fun kq v3 w'=>∃(aa:Int),v3=.int .i64 aa∧Aside0 (whole_trimmed.l0 kq l0 aa=some r)∧Aside0 (kq≤k)∧Aside0 (Kd.V (Kd.int .u64) 48 w' w.heap.size (fun k_=>(P0_ k_∨w.heap.size≤k_)) (.slice A0 l0.length c0) l0)∧Aside0 (Below w.heap.size w w'))
 case atStart=>exact⟨((l0.length:Int)),F0,H',⟨Nat.le_refl _⟩,⟨kvu HO0.out⟩,⟨khu HB.out⟩⟩
 case round=>
  clear H'
  obtain⟨aa,rfl,HA,HK1,ab,HB⟩:=hrel
  cases gk with
  | zero=>exact absurd HA.out (by simp[whole_trimmed.l0])
  | succ k1=>
   have H:=HA.out
   clear HA
   simp only[whole_trimmed.l0]at H
   by_cases c2:aa>0
   ·rw [if_pos c2]at H
    have aB:decide (0<aa)=true:=decide_eq_true c2
    clear c2
    obtain⟨ji3,hji3⟩:∃j_:Int,(wrap64 (aa-1))=j_:=⟨_,rfl⟩
    replace H:(if 0≤(ji3) then(if(ji3)<(l0.length:Int) then(if(rd l0 (ji3))=0 then(whole_trimmed.l0 k1 l0 ji3) else(if 0≤aa then(if aa≤(l0.length:Int) then(some (l0.take (aa:Int).toNat)) else(none)) else(none))) else(none)) else(none))=some r:=by first|(rw[hji3]at H;exact H)|(simp only[hji3]at H ⊢;exact H)
    have aF:(IntKind.i64.wrap (aa-1))=ji3:=(i64_w _).trans hji3
    by_cases c4:0≤(ji3)
    ·rw [if_pos c4]at H
     have aM:decide (0≤(ji3))=true:=decide_eq_true c4
     clear c4
     by_cases c5:(ji3)<(l0.length:Int)
     ·rw[if_pos c5]at H
      have aN:decide ((ji3)<(l0.length:Int))=true:=decide_eq_true c5
      clear c5
      by_cases c6:(rd l0 (ji3))=0
      ·rw[if_pos c6]at H
       have aC:((rd l0 (ji3))==0)=true:=beq_iff_eq.mpr c6
       have aD:((rd l0 (ji3)) != 0)=false:=bne_eq_false_iff_eq.mpr c6
       clear c6
       have H':=Aside0.mk H
       clear H
       have ac:0≤((ji3):Int):=of_decide_eq_true ‹_›
       have ad:(ji3)<(l0.length:Int):=of_decide_eq_true ‹_›
       obtain⟨ag,al,ar⟩:=Kd.at_int (Kd.V_reads' ab.out).2.2 (ji3) ac ad
       cases al
       replace ac:=eq_true ac
       replace ad:=eq_true ad
       go_wp2
       go_roundg k1
       case measure=>have:=HK1.out;omega
       case rel=>exact⟨(ji3),F6,H',⟨V3⟩,⟨kvu ab.out⟩,⟨khu HB.out⟩⟩
      rw[if_neg c6]at H
      have aC:((rd l0 (ji3))==0)=false:=beq_eq_false_iff_ne.mpr c6
      have aD:((rd l0 (ji3)) != 0)=true:=bne_iff_ne.mpr c6
      by_cases c7:0≤aa
      ·rw[if_pos c7]at H
       have aO:=eq_true c7
       have aP:decide (0≤aa)=true:=decide_eq_true c7
       clear c7
       by_cases c8:aa≤(l0.length:Int)
       ·rw[if_pos c8]at H
        have aQ:=eq_true c8
        have aR:decide (aa≤(l0.length:Int))=true:=decide_eq_true c8
        clear c8
        obtain⟨ah,ae⟩:∃y_:List Int,y_=(l0.take (aa:Int).toNat):=⟨_,rfl⟩
        replace H:(some ah)=some r:=by first|(rw[ae];with_reducible exact H)|(have H2_:=(Option.bind_some _ _).symm.trans H;rw[ae];with_reducible exact H2_)|(have H2_:=(Option.bind_some _ _).symm.trans H;with_reducible exact H2_)|with_reducible exact H|(rw[ae];exact H)|exact H
        have ao:=Aside0.mk ae
        clear ae
        obtain rfl:=Option.some.inj H
        have ac:0≤((ji3):Int):=of_decide_eq_true ‹_›
        have ad:(ji3)<(l0.length:Int):=of_decide_eq_true ‹_›
        obtain⟨ag,al,ar⟩:=Kd.at_int (Kd.V_reads' ab.out).2.2 (ji3) ac ad
        cases al
        replace ac:=eq_true ac
        replace ad:=eq_true ad
        have q9:(aa:Int)≤((l0.length:Int):Int):=of_decide_eq_true ‹_›
        obtain⟨i09,au,_,aE,_⟩:=info_parts info48
        have ak:l0.length≤c0:=(Kd.V_reads' ab.out).2.1
        have hC9:Kd.F (Kd.int .u64) _ _ (some ag) l0.length l0:=(Kd.V_at (base:=w.heap.size) ab.out).2.2
        have ax:=cut_to (P:=Tryz.prog) 25 48 .i64 Tryz.underlying25 au (some ag) l0.length c0 aa (of_decide_eq_true ‹_›) q9 ak
        have hr9:=Kd.F_take (m:=(aa:Int).toNat) hC9 Y0
        have hy9:ah.length=(aa:Int).toNat:=(by rw[ao.out,List.length_take];omega)
        rw[←ao.out]at hr9
        rw[←hy9]at ax
        have ay:=Aside0.mk (show Kd.V (Kd.int .u64) 48 _ w.heap.size _ (.slice (some ag) ah.length c0) ah from Kd.V_mk Y0 hr9)
        have aG:=Aside0.mk (show ah.length≤c0 from by omega)
        clear hr9 hC9 ak au aE
        have KY9:=Aside0.mk hy9
        clear hy9
        replace q9:=eq_true q9
        go_wp2
        go_ret
        exact⟨_,U2,kvu ay.out,khu HB.out⟩
       rw[if_neg c8]at H
       exact absurd H F1
      rw[if_neg c7]at H
      exact absurd H F1
     rw[if_neg c5]at H
     exact absurd H F1
    rw[if_neg c4]at H
    exact absurd H F1
   rw[if_neg c2]at H
   have aB:decide (0<aa)=false:=decide_eq_false c2
   clear c2
   by_cases c10:0≤aa
   ·rw[if_pos c10]at H
    have aH:=eq_true c10
    have aI:decide (0≤aa)=true:=decide_eq_true c10
    clear c10
    by_cases c11:aa≤(l0.length:Int)
    ·rw[if_pos c11]at H
     have aJ:=eq_true c11
     have aK:decide (aa≤(l0.length:Int))=true:=decide_eq_true c11
     clear c11
     obtain⟨ai,af⟩:∃y_:List Int,y_=(l0.take (aa:Int).toNat):=⟨_,rfl⟩
     replace H:(some ai)=some r:=by first|(rw[af];with_reducible exact H)|(have H2_:=(Option.bind_some _ _).symm.trans H;rw[af];with_reducible exact H2_)|(have H2_:=(Option.bind_some _ _).symm.trans H;with_reducible exact H2_)|with_reducible exact H|(rw[af];exact H)|exact H
     have ap:=Aside0.mk af
     clear af
     obtain rfl:=Option.some.inj H
     have q12:(aa:Int)≤((l0.length:Int):Int):=of_decide_eq_true ‹_›
     obtain⟨i012,aq,_,az,_⟩:=info_parts info48
     have aj:l0.length≤c0:=(Kd.V_reads' ab.out).2.1
     have av:Kd.F (Kd.int .u64) _ _ A0 l0.length l0:=(Kd.V_at (base:=w.heap.size) ab.out).2.2
     have aw:=cut_to (P:=Tryz.prog) 25 48 .i64 Tryz.underlying25 aq A0 l0.length c0 aa (of_decide_eq_true ‹_›) q12 aj
     have am:=Kd.F_take (m:=(aa:Int).toNat) av Y0
     have an:ai.length=(aa:Int).toNat:=(by rw[ap.out,List.length_take];omega)
     rw[←ap.out]at am
     rw[←an]at aw
     have aA:=Aside0.mk (show Kd.V (Kd.int .u64) 48 _ w.heap.size _ (.slice A0 ai.length c0) ai from Kd.V_mk Y0 am)
     have aL:=Aside0.mk (show ai.length≤c0 from by omega)
     clear am av aj aq az
     have aS:=Aside0.mk an
     clear an
     replace q12:=eq_true q12
     go_wp2
     go_ret
     exact⟨_,Z1,kvu aA.out,khu HB.out⟩
    rw[if_neg c11]at H
    exact absurd H F1
   rw[if_neg c10]at H
   exact absurd H F1
def whole_amount_null.f (l0:List Int):Option (Bool):=some ((l0.length:Int)==0)
theorem whole_amount_null.calls (A0:Option Addr) (c0:Nat) (l0:List Int) (r:Bool) (w:World) (hr0:Kd.C (Kd.int .u64) w A0 l0.length l0) (hc0:l0.length≤c0) (h:whole_amount_null.f l0=some r) :
  Calls Tryz.prog 94 #[.slice A0 l0.length c0] w fun e w'=>e=.returned (.bool r)∧Drawn0 w w':=by
 have HR0:=Aside0.mk hr0
 have HC0:=Aside0.mk hc0
 clear hr0 hc0
 have H:(some ((l0.length:Int)==0))=some r:=h
 clear h
 obtain rfl:=Option.some.inj H
 go_enter Tryz.func94,Tryz.ntmps94
 go_wp2
 go_ret
 exact⟨F0,Y1⟩
def whole_of.f (k:Nat) (a0_0:Bool) (l0_1:List Int):Option (List Int×Bool):=(whole_trimmed.f k l0_1).bind fun t150=>(if a0_0=true then((whole_amount_null.f t150).bind fun t153=>(some (t150,!t153))) else(some (t150,false)))
theorem whole_of.mono:∀a0 a1 k,LeO (whole_of.f k a0 a1) (whole_of.f (k+1) a0 a1):=by
 intro a0 a1 k
 unfold whole_of.f
 repeat' first
   | (with_reducible exact whole_trimmed.mono _ _)
   | (with_reducible exact LeO.refl _)
   | (with_reducible exact LeO.none _)
   | (with_reducible refine LeO.ite ?_ ?_)
   | (with_reducible refine LeO.bind ?_ (fun _=>?_))
   | exact whole_trimmed.mono _ _
   | exact LeO.none _
   | refine LeO.ite ?_ ?_
   | refine LeO.bind ?_ (fun _=>?_)
theorem whole_of.calls (k:Nat) (ad:Bool) (P0_1_:Nat→Prop) (ab:Option Addr) (ac:Nat) (aa:List Int) (r1:List Int) (r2:Bool) (w:World) (ae:Kd.V (Kd.int .u64) 48 w w.heap.size (fun k_=>P0_1_ k_) (.slice ab aa.length ac) aa) (h:whole_of.f k ad aa=some (r1,r2)) :
  Calls Tryz.prog 51 #[.agg #[.bool ad,.slice ab aa.length ac]] w fun e w'=>∃v0_:Value,e=.returned (.agg #[v0_,.bool r2])∧Kd.V (Kd.int .u64) 48 w' w.heap.size (fun k_=>(P0_1_ k_∨w.heap.size≤k_)) v0_ r1∧Below w.heap.size w w':=by
 have af:=Tryz.underlying43
 have ag:=Tryz.underlying90
 have K:=Kp.refl w
 replace K:=K.parV (Kd.V_mono (ok':=fun k=>P0_1_ k) ae (fun _ h=>h))
 clear ae
 try simp only[klv]at K
 rw[whole_of.f]at h
 replace h:=bindA h
 obtain⟨x5,A6,h⟩:=h
 by_cases c_0:ad=true
 ·subst c_0
  rw[if_pos rfl]at h
  replace h:=bindA h
  obtain⟨z13,A14,h⟩:=h
  simp only[Option.some.injEq,Prod.mk.injEq]at h
  obtain⟨rfl,rfl⟩:=h
  go_enter Tryz.func51,Tryz.ntmps51
  go_wp2_with (first|(refine gd 1 rfl ?_;refine kbk 1 #[.bool true,.slice ab aa.length ac] 43 K.u ?_;clear K;intro g1 W2 K)|(refine gd 2 rfl ?_;refine kbk 2 #[.slice none 0 0,.bool false] 90 K.u ?_;clear K;intro g3 W4 K;obtain⟨ua0,ub0⟩:=K.cell2 0 rfl)|(refine gd 6 rfl ?_;clear ua0 ub0;refine kgl (some 6) rfl rfl Tryz.func93 #[.slice ab aa.length ac] rfl ?_;refine(whole_trimmed.calls _ _ _ _ aa x5 _ (K.V 0 rfl) A6.out).mono ?_;rintro e W9 ⟨v7,rfl,ho8,hb⟩;refine⟨_,rfl,?_⟩;replace K:=K.u.add (fun k=>P0_1_ k) hb ho8 (fun _ h=>h);clear hb ho8;obtain⟨P10,c11,e12⟩:=K.slice 1 rfl;subst e12;obtain⟨ua0,ub0⟩:=K.cell2 0 rfl)|(refine gd 12 rfl ?_;clear ua0 ub0;refine gate_guard B0 ?_;refine kgl (some 12) rfl rfl Tryz.func94 #[.slice P10 x5.length c11] rfl ?_;refine(whole_amount_null.calls _ _ x5 z13 _ (K.C 1 rfl) (K.le 1 rfl) A14.out).mono ?_;rintro e W15 ⟨rfl,hb⟩;refine⟨_,rfl,?_⟩;replace K:=K.u.up hb.below;clear hb)|(refine gs 90 2 15 rfl ?_;refine ks2 1 (.slice P10 x5.length c11) (.bool !z13) K.u rfl ?_;clear K;intro W16 K;simp only[kls,klv]at K))
  refine bodyPost_ret (results_single rfl (.cell g3 90 #[.slice P10 x5.length c11,.bool !z13] (0,0) _ rfl (K.u.heap 1 rfl) Tryz.underlying90 rfl Z0 .nil)) rfl ?_
  exact⟨_,rfl,K.u.hand 1 rfl (fun k_ h=>h.elim (fun h=>.inl h) .inr),K.u.below⟩
 replace c_0:=Bool.eq_false_iff.mpr c_0
 subst c_0
 rw[if_neg X0]at h
 simp only[Option.some.injEq,Prod.mk.injEq]at h
 obtain⟨rfl,rfl⟩:=h
 go_enter Tryz.func51,Tryz.ntmps51
 go_wp2_with (first|(refine gd 1 rfl ?_;refine kbk 1 #[.bool false,.slice ab aa.length ac] 43 K.u ?_;clear K;intro g1 W2 K)|(refine gd 2 rfl ?_;refine kbk 2 #[.slice none 0 0,.bool false] 90 K.u ?_;clear K;intro g3 W4 K;obtain⟨ua0,ub0⟩:=K.cell2 0 rfl)|(refine gd 6 rfl ?_;clear ua0 ub0;refine kgl (some 6) rfl rfl Tryz.func93 #[.slice ab aa.length ac] rfl ?_;refine(whole_trimmed.calls _ _ _ _ aa x5 _ (K.V 0 rfl) A6.out).mono ?_;rintro e W9 ⟨v7,rfl,ho8,hb⟩;refine⟨_,rfl,?_⟩;replace K:=K.u.add (fun k=>P0_1_ k) hb ho8 (fun _ h=>h);clear hb ho8;obtain⟨P10,c11,e12⟩:=K.slice 1 rfl;subst e12;obtain⟨ua0,ub0⟩:=K.cell2 0 rfl)|(refine gs 90 2 15 rfl ?_;clear ua0 ub0;refine ks2 1 (.slice P10 x5.length c11) (.bool false) K.u rfl ?_;clear K;intro W13 K;simp only[kls,klv]at K))
 refine bodyPost_ret (results_single rfl (.cell g3 90 #[.slice P10 x5.length c11,.bool false] (0,0) _ rfl (K.u.heap 1 rfl) Tryz.underlying90 rfl Z0 .nil)) rfl ?_
 exact⟨_,rfl,K.u.hand 1 rfl (fun k_ h=>h.elim (fun h=>.inl h) .inr),K.u.below⟩
def whole_amount_cmp.l0:Nat→List Int→List Int→Int→Option (Int)
 | 0,_,_,_=>none
 | k+1,x0,x1,x5=>if x5≥0 then(if 0≤x5 then(if x5<(x0.length:Int) then(if x5<(x1.length:Int) then(if(rd x0 x5)=(rd x1 x5) then(whole_amount_cmp.l0 k x0 x1 (wrap64 (x5-1))) else(if(rd x0 x5)<(rd x1 x5) then(some (-1)) else(some 1))) else(none)) else(none)) else(none)) else(some 0)
def whole_amount_cmp.f (k:Nat) (l0:List Int) (l1:List Int):Option (Int):=if(l0.length:Int)=(l1.length:Int) then(whole_amount_cmp.l0 k l0 l1 (wrap64 ((l0.length:Int)-1))) else(if(l0.length:Int)<(l1.length:Int) then(some (-1)) else(some 1))
theorem whole_amount_cmp.mono_l:∀k,(∀y0 y1 y2,LeO (whole_amount_cmp.l0 k y0 y1 y2) (whole_amount_cmp.l0 (k+1) y0 y1 y2))
 | 0=>fun _ _ _ r h=>by simp[whole_amount_cmp.l0]at h
 | k+1=>by
  have ih0:=whole_amount_cmp.mono_l k
  intro y0 y1 y2
  unfold whole_amount_cmp.l0
  repeat' first
  | (with_reducible exact ih0 _ _ _)
  | (with_reducible exact LeO.refl _)
  | (with_reducible exact LeO.none _)
  | (with_reducible refine LeO.ite ?_ ?_)
  | (with_reducible refine LeO.bind ?_ (fun _=>?_))
  | exact ih0 _ _ _
  | exact LeO.none _
  | refine LeO.ite ?_ ?_
  | refine LeO.bind ?_ (fun _=>?_)
theorem whole_amount_cmp.mono:∀a0 a1 k,LeO (whole_amount_cmp.f k a0 a1) (whole_amount_cmp.f (k+1) a0 a1):=by
 intro a0 a1 k
 have ih0:=whole_amount_cmp.mono_l k
 unfold whole_amount_cmp.f
 repeat' first
   | (with_reducible exact ih0 _ _ _)
   | (with_reducible exact LeO.refl _)
   | (with_reducible exact LeO.none _)
   | (with_reducible refine LeO.ite ?_ ?_)
   | (with_reducible refine LeO.bind ?_ (fun _=>?_))
   | exact ih0 _ _ _
   | exact LeO.none _
   | refine LeO.ite ?_ ?_
   | refine LeO.bind ?_ (fun _=>?_)
theorem whole_amount_cmp.calls (k:Nat) (A0:Option Addr) (c0:Nat) (l0:List Int) (A1:Option Addr) (c1:Nat) (l1:List Int) (r:Int) (w:World) (hr0:Kd.C (Kd.int .u64) w A0 l0.length l0) (hc0:l0.length≤c0) (hr1:Kd.C (Kd.int .u64) w A1 l1.length l1) (hc1:l1.length≤c1) (h:whole_amount_cmp.f k l0 l1=some r) :
  Calls Tryz.prog 95 #[.slice A0 l0.length c0,.slice A1 l1.length c1] w fun e w'=>e=.returned (.int .i64 r)∧Drawn0 w w':=by
 have HR0:=Aside0.mk hr0
 have HC0:=Aside0.mk hc0
 clear hr0 hc0
 have HR1:=Aside0.mk hr1
 have HC1:=Aside0.mk hc1
 clear hr1 hc1
 have H:(if(l0.length:Int)=(l1.length:Int) then(whole_amount_cmp.l0 k l0 l1 (wrap64 ((l0.length:Int)-1))) else(if(l0.length:Int)<(l1.length:Int) then(some (-1)) else(some 1)))=some r:=h
 clear h
 by_cases c3:(l0.length:Int)=(l1.length:Int)
 ·rw [if_pos c3]at H
  have ax:((l0.length:Int)==(l1.length:Int))=true:=beq_iff_eq.mpr c3
  have ay:((l0.length:Int) != (l1.length:Int))=false:=bne_eq_false_iff_eq.mpr c3
  have az:(l0.length==l1.length)=true:=by first|simpa using c3|(simp at c3 ⊢;omega)
  clear c3
  have H':=Aside0.mk H
  clear H
  go_enter Tryz.func95,Tryz.ntmps95
  go_wp2
  repeat (go_quiet (fail);try go_wp2)
  go_loopg [5] k (fun kq v5 w'=>∃(aa:Int),v5=.int .i64 aa∧Aside0 (whole_amount_cmp.l0 kq l0 l1 aa=some r)∧Aside0 (kq≤k)∧Drawn0 w w')
  case atStart=>exact⟨(wrap64 ((l0.length:Int)-1)),F0,H',⟨Nat.le_refl _⟩,Y1⟩
  case round=>
   clear H'
   try clear c1
   try clear p2
   try clear c3
   try clear ax
   try clear ay
   try clear az
   obtain⟨aa,rfl,HA,HK1,⟨m1,rfl⟩⟩:=hrel
   cases gk with
   | zero=>exact absurd HA.out (by simp[whole_amount_cmp.l0])
   | succ k1=>
    have H:=HA.out
    clear HA
    simp only[whole_amount_cmp.l0]at H
    by_cases c4:aa≥0
    ·rw [if_pos c4]at H
     have aC:decide (0≤aa)=true:=decide_eq_true c4
     clear c4
     by_cases c5:0≤aa
     ·rw [if_pos c5]at H
      have aG:decide (0≤aa)=true:=decide_eq_true c5
      clear c5
      by_cases c6:aa<(l0.length:Int)
      ·rw[if_pos c6]at H
       have aH:decide (aa<(l0.length:Int))=true:=decide_eq_true c6
       clear c6
       by_cases c7:aa<(l1.length:Int)
       ·rw[if_pos c7]at H
        have aI:decide (aa<(l1.length:Int))=true:=decide_eq_true c7
        clear c7
        by_cases c8:(rd l0 aa)=(rd l1 aa)
        ·rw[if_pos c8]at H
         have aD:((rd l0 aa)==(rd l1 aa))=true:=beq_iff_eq.mpr c8
         have aE:((rd l0 aa) != (rd l1 aa))=false:=bne_eq_false_iff_eq.mpr c8
         clear c8
         have H':=Aside0.mk H
         clear H
         have ab:0≤(aa:Int):=of_decide_eq_true ‹_›
         have ac:aa<(l0.length:Int):=of_decide_eq_true ‹_›
         obtain⟨aj,al,an⟩:=Kd.at_int HR0.out aa ab ac
         cases al
         replace ab:=eq_true ab
         replace ac:=eq_true ac
         have ad:0≤(aa:Int):=of_decide_eq_true ‹_›
         have ae:aa<(l1.length:Int):=of_decide_eq_true ‹_›
         obtain⟨ak,am,ao⟩:=Kd.at_int HR1.out aa ad ae
         cases am
         replace ad:=eq_true ad
         replace ae:=eq_true ae
         go_wp2
         repeat (go_quiet (fail);try go_wp2)
         go_roundg k1
         case measure=>have:=HK1.out;omega
         case rel=>exact⟨(wrap64 (aa-1)),F0,H',⟨V3⟩,Y1⟩
        rw[if_neg c8]at H
        have aD:((rd l0 aa)==(rd l1 aa))=false:=beq_eq_false_iff_ne.mpr c8
        have aE:((rd l0 aa) != (rd l1 aa))=true:=bne_iff_ne.mpr c8
        by_cases c9:(rd l0 aa)<(rd l1 aa)
        ·rw[if_pos c9]at H
         have aF:decide ((rd l0 aa)<(rd l1 aa))=true:=decide_eq_true c9
         clear c9
         obtain rfl:=Option.some.inj H
         have ab:0≤(aa:Int):=of_decide_eq_true ‹_›
         have ac:aa<(l0.length:Int):=of_decide_eq_true ‹_›
         obtain⟨aj,al,an⟩:=Kd.at_int HR0.out aa ab ac
         cases al
         replace ab:=eq_true ab
         replace ac:=eq_true ac
         have ad:0≤(aa:Int):=of_decide_eq_true ‹_›
         have ae:aa<(l1.length:Int):=of_decide_eq_true ‹_›
         obtain⟨ak,am,ao⟩:=Kd.at_int HR1.out aa ad ae
         cases am
         replace ad:=eq_true ad
         replace ae:=eq_true ae
         have af:0≤(aa:Int):=of_decide_eq_true ‹_›
         have ag:aa<(l0.length:Int):=of_decide_eq_true ‹_›
         obtain⟨ap,ar,av⟩:=Kd.at_int HR0.out aa af ag
         obtain rfl:aj=ap:=(by injection ar)
         replace af:=eq_true af
         replace ag:=eq_true ag
         have ah:0≤(aa:Int):=of_decide_eq_true ‹_›
         have ai:aa<(l1.length:Int):=of_decide_eq_true ‹_›
         obtain⟨aq,au,aw⟩:=Kd.at_int HR1.out aa ah ai
         obtain rfl:ak=aq:=(by injection au)
         replace ah:=eq_true ah
         replace ai:=eq_true ai
         go_wp2
         repeat (go_quiet (fail);try go_wp2)
         go_ret
         exact⟨F0,Y1⟩
        rw[if_neg c9]at H
        have aF:decide ((rd l0 aa)<(rd l1 aa))=false:=decide_eq_false c9
        clear c9
        obtain rfl:=Option.some.inj H
        have ab:0≤(aa:Int):=of_decide_eq_true ‹_›
        have ac:aa<(l0.length:Int):=of_decide_eq_true ‹_›
        obtain⟨aj,al,an⟩:=Kd.at_int HR0.out aa ab ac
        cases al
        replace ab:=eq_true ab
        replace ac:=eq_true ac
        have ad:0≤(aa:Int):=of_decide_eq_true ‹_›
        have ae:aa<(l1.length:Int):=of_decide_eq_true ‹_›
        obtain⟨ak,am,ao⟩:=Kd.at_int HR1.out aa ad ae
        cases am
        replace ad:=eq_true ad
        replace ae:=eq_true ae
        have af:0≤(aa:Int):=of_decide_eq_true ‹_›
        have ag:aa<(l0.length:Int):=of_decide_eq_true ‹_›
        obtain⟨ap,ar,av⟩:=Kd.at_int HR0.out aa af ag
        obtain rfl:aj=ap:=(by injection ar)
        replace af:=eq_true af
        replace ag:=eq_true ag
        have ah:0≤(aa:Int):=of_decide_eq_true ‹_›
        have ai:aa<(l1.length:Int):=of_decide_eq_true ‹_›
        obtain⟨aq,au,aw⟩:=Kd.at_int HR1.out aa ah ai
        obtain rfl:ak=aq:=(by injection au)
        replace ah:=eq_true ah
        replace ai:=eq_true ai
        go_wp2
        repeat (go_quiet (fail);try go_wp2)
        go_ret
        exact⟨F0,Y1⟩
       rw[if_neg c7]at H
       exact absurd H F1
      rw[if_neg c6]at H
      exact absurd H F1
     rw[if_neg c5]at H
     exact absurd H F1
    rw[if_neg c4]at H
    have aC:decide (0≤aa)=false:=decide_eq_false c4
    clear c4
    obtain rfl:=Option.some.inj H
    go_wp2
    repeat (go_quiet (fail);try go_wp2)
    go_ret
    exact⟨F0,Y1⟩
 rw[if_neg c3]at H
 have ax:((l0.length:Int)==(l1.length:Int))=false:=beq_eq_false_iff_ne.mpr c3
 have ay:((l0.length:Int) != (l1.length:Int))=true:=bne_iff_ne.mpr c3
 have az:(l0.length==l1.length)=false:=by first|simpa using c3|(simp at c3 ⊢;omega)
 by_cases c10:(l0.length:Int)<(l1.length:Int)
 ·rw[if_pos c10]at H
  have aA:decide ((l0.length:Int)<(l1.length:Int))=true:=decide_eq_true c10
  have aB:decide (l0.length<l1.length)=true:=decide_eq_true (Int.ofNat_lt.mp c10)
  clear c10
  obtain rfl:=Option.some.inj H
  go_enter Tryz.func95,Tryz.ntmps95
  go_wp2
  repeat (go_quiet (fail);try go_wp2)
  go_ret
  exact⟨F0,Y1⟩
 rw[if_neg c10]at H
 have aA:decide ((l0.length:Int)<(l1.length:Int))=false:=decide_eq_false c10
 have aB:decide (l0.length<l1.length)=false:=decide_eq_false (fun h=>c10 (Int.ofNat_lt.mpr h))
 clear c10
 obtain rfl:=Option.some.inj H
 go_enter Tryz.func95,Tryz.ntmps95
 go_wp2
 repeat (go_quiet (fail);try go_wp2)
 go_ret
 exact⟨F0,Y1⟩
mutual
def whole_number_cmp.j0:Nat→Bool→List Int→Bool→List Int→Bool→Option (Int)
 | 0,_,_,_,_,_=>none
 | k+1,x5,x304000,x304001,x305000,x305001=>if x5=true then(some (-1)) else(if x304001=true then(whole_number_cmp.j1 k false x304000 x304001 x305000 x305001) else(whole_number_cmp.j1 k x305001 x304000 x304001 x305000 x305001))
def whole_number_cmp.j1:Nat→Bool→List Int→Bool→List Int→Bool→Option (Int)
 | 0,_,_,_,_,_=>none
 | k+1,x13,x304000,x304001,x305000,x305001=>if x13=true then(some 1) else(if x304001=true then((whole_amount_cmp.f k x305000 x304000).bind fun t305=>(some t305)) else((whole_amount_cmp.f k x304000 x305000).bind fun t306=>(some t306)))
end
def whole_number_cmp.f (k:Nat) (l0_0:List Int) (a0_1:Bool) (l1_0:List Int) (a1_1:Bool):Option (Int):=if a0_1=true then(whole_number_cmp.j0 k (!a1_1) l0_0 a0_1 l1_0 a1_1) else(whole_number_cmp.j0 k false l0_0 a0_1 l1_0 a1_1)
theorem whole_number_cmp.mono_l:∀k,(∀y0 y1 y2 y3 y4,LeO (whole_number_cmp.j0 k y0 y1 y2 y3 y4) (whole_number_cmp.j0 (k+1) y0 y1 y2 y3 y4))∧(∀y0 y1 y2 y3 y4,LeO (whole_number_cmp.j1 k y0 y1 y2 y3 y4) (whole_number_cmp.j1 (k+1) y0 y1 y2 y3 y4))
 | 0=>⟨fun _ _ _ _ _ r h=>by simp[whole_number_cmp.j0]at h,fun _ _ _ _ _ r h=>by simp[whole_number_cmp.j1]at h⟩
 | k+1=>by
  obtain⟨ih0,ih1⟩:=whole_number_cmp.mono_l k
  refine⟨?_,?_⟩
  ·intro y0 y1 y2 y3 y4
   unfold whole_number_cmp.j0
   repeat' first
   | (with_reducible exact ih0 _ _ _ _ _)
   | (with_reducible exact ih1 _ _ _ _ _)
   | (with_reducible exact whole_amount_cmp.mono _ _ _)
   | (with_reducible exact LeO.refl _)
   | (with_reducible exact LeO.none _)
   | (with_reducible refine LeO.ite ?_ ?_)
   | (with_reducible refine LeO.bind ?_ (fun _=>?_))
   | exact ih0 _ _ _ _ _
   | exact ih1 _ _ _ _ _
   | exact whole_amount_cmp.mono _ _ _
   | exact LeO.none _
   | refine LeO.ite ?_ ?_
   | refine LeO.bind ?_ (fun _=>?_)
  intro y0 y1 y2 y3 y4
  unfold whole_number_cmp.j1
  repeat' first
  | (with_reducible exact ih0 _ _ _ _ _)
  | (with_reducible exact ih1 _ _ _ _ _)
  | (with_reducible exact whole_amount_cmp.mono _ _ _)
  | (with_reducible exact LeO.refl _)
  | (with_reducible exact LeO.none _)
  | (with_reducible refine LeO.ite ?_ ?_)
  | (with_reducible refine LeO.bind ?_ (fun _=>?_))
  | exact ih0 _ _ _ _ _
  | exact ih1 _ _ _ _ _
  | exact whole_amount_cmp.mono _ _ _
  | exact LeO.none _
  | refine LeO.ite ?_ ?_
  | refine LeO.bind ?_ (fun _=>?_)
theorem whole_number_cmp.mono:∀a0 a1 a2 a3 k,LeO (whole_number_cmp.f k a0 a1 a2 a3) (whole_number_cmp.f (k+1) a0 a1 a2 a3):=by
 intro a0 a1 a2 a3 k
 obtain⟨ih0,ih1⟩:=whole_number_cmp.mono_l k
 unfold whole_number_cmp.f
 repeat' first
   | (with_reducible exact ih0 _ _ _ _ _)
   | (with_reducible exact ih1 _ _ _ _ _)
   | (with_reducible exact whole_amount_cmp.mono _ _ _)
   | (with_reducible exact LeO.refl _)
   | (with_reducible exact LeO.none _)
   | (with_reducible refine LeO.ite ?_ ?_)
   | (with_reducible refine LeO.bind ?_ (fun _=>?_))
   | exact ih0 _ _ _ _ _
   | exact ih1 _ _ _ _ _
   | exact whole_amount_cmp.mono _ _ _
   | exact LeO.none _
   | refine LeO.ite ?_ ?_
   | refine LeO.bind ?_ (fun _=>?_)
theorem whole_number_cmp.calls (k:Nat) (ac:Option Addr) (ad:Nat) (aa:List Int) (ah:Bool) (ae:Option Addr) (af:Nat) (ab:List Int) (ag:Bool) (r:Int) (w:World) (ai:Kd.C (Kd.int .u64) w ac aa.length aa) (aj:aa.length≤ad) (ak:Kd.C (Kd.int .u64) w ae ab.length ab) (al:ab.length≤af) (h:whole_number_cmp.f k aa ah ab ag=some r) :
  Calls Tryz.prog 52 #[.agg #[.slice ac aa.length ad,.bool ah],.agg #[.slice ae ab.length af,.bool ag]] w fun e w'=>e=.returned (.int .i64 r)∧Below w.heap.size w w':=by
 have am:=Tryz.underlying90
 have K:=Kp.refl w
 replace K:=K.parV (Kd.V_mono (ok':=fun _=>True) (Kd.V_mk (e:=48) (base:=0) aj (Kd.C_F (Kd.heap_int .u64) ai)) (fun _ h=>trivial))
 clear ai aj
 replace K:=K.parV (Kd.V_mono (ok':=fun _=>True) (Kd.V_mk (e:=48) (base:=0) al (Kd.C_F (Kd.heap_int .u64) ak)) (fun _ h=>trivial))
 clear ak al
 try simp only[klv]at K
 rw[whole_number_cmp.f]at h
 by_cases c_0:ah=true
 ·subst c_0
  rw[if_pos rfl]at h
  obtain⟨k,rfl⟩:∃j,k=j+1:=by
   cases k with
   | zero=>simp[whole_number_cmp.j0]at h
   | succ k=>exact⟨k,rfl⟩
  rw[whole_number_cmp.j0]at h
  by_cases c_1:(!ag)=true
  ·rw[if_pos c_1]at h
   simp only[Option.some.injEq]at h
   subst h
   go_enter Tryz.func52,Tryz.ntmps52
   go_wp2_with (first|(refine gd 2 rfl ?_;refine kbk 2 #[.slice ac aa.length ad,.bool true] 90 K.u ?_;clear K;intro g1 W2 K)|(refine gd 3 rfl ?_;refine kbk 3 #[.slice ae ab.length af,.bool ag] 90 K.u ?_;clear K;intro g3 W4 K;obtain⟨ua0,ub0⟩:=K.cell2 0 rfl;obtain⟨ua1,ub1⟩:=K.cell2 1 rfl))
   go_ret
   exact⟨rfl,K.u.below⟩
  rw[if_neg c_1]at h
  replace c_1:=Bool.eq_false_iff.mpr c_1
  rw[if_pos rfl]at h
  obtain⟨k,rfl⟩:∃j,k=j+1:=by
   cases k with
   | zero=>simp[whole_number_cmp.j1]at h
   | succ k=>exact⟨k,rfl⟩
  rw[whole_number_cmp.j1]at h
  rw[if_neg X0]at h
  rw[if_pos rfl]at h
  replace h:=bindA h
  obtain⟨n5,A6,h⟩:=h
  simp only[Option.some.injEq]at h
  subst h
  go_enter Tryz.func52,Tryz.ntmps52
  go_wp2_with (first|(refine gd 2 rfl ?_;refine kbk 2 #[.slice ac aa.length ad,.bool true] 90 K.u ?_;clear K;intro g1 W2 K)|(refine gd 3 rfl ?_;refine kbk 3 #[.slice ae ab.length af,.bool ag] 90 K.u ?_;clear K;intro g3 W4 K;obtain⟨ua0,ub0⟩:=K.cell2 0 rfl;obtain⟨ua1,ub1⟩:=K.cell2 1 rfl)|(refine gd 28 rfl ?_;clear ua0 ub0 ua1 ub1;refine kgl (some 28) rfl rfl Tryz.func95 #[.slice ae ab.length af,.slice ac aa.length ad] rfl ?_;refine(whole_amount_cmp.calls _ _ _ ab _ _ aa n5 _ (K.C 1 rfl) (K.le 1 rfl) (K.C 0 rfl) (K.le 0 rfl) A6.out).mono ?_;rintro e W7 ⟨rfl,hb⟩;refine⟨_,rfl,?_⟩;replace K:=K.u.up hb.below;clear hb))
  go_ret
  exact⟨rfl,K.u.below⟩
 replace c_0:=Bool.eq_false_iff.mpr c_0
 subst c_0
 rw[if_neg X0]at h
 obtain⟨k,rfl⟩:∃j,k=j+1:=by
  cases k with
  | zero=>simp[whole_number_cmp.j0]at h
  | succ k=>exact⟨k,rfl⟩
 rw[whole_number_cmp.j0]at h
 rw[if_neg X0]at h
 rw[if_neg X0]at h
 obtain⟨k,rfl⟩:∃j,k=j+1:=by
  cases k with
  | zero=>simp[whole_number_cmp.j1]at h
  | succ k=>exact⟨k,rfl⟩
 rw[whole_number_cmp.j1]at h
 by_cases c_2:ag=true
 ·subst c_2
  rw[if_pos rfl]at h
  simp only[Option.some.injEq]at h
  subst h
  go_enter Tryz.func52,Tryz.ntmps52
  go_wp2_with (first|(refine gd 2 rfl ?_;refine kbk 2 #[.slice ac aa.length ad,.bool false] 90 K.u ?_;clear K;intro g1 W2 K)|(refine gd 3 rfl ?_;refine kbk 3 #[.slice ae ab.length af,.bool true] 90 K.u ?_;clear K;intro g3 W4 K;obtain⟨ua0,ub0⟩:=K.cell2 0 rfl;obtain⟨ua1,ub1⟩:=K.cell2 1 rfl))
  go_ret
  exact⟨rfl,K.u.below⟩
 replace c_2:=Bool.eq_false_iff.mpr c_2
 subst c_2
 rw[if_neg X0]at h
 rw[if_neg X0]at h
 replace h:=bindA h
 obtain⟨n5,A6,h⟩:=h
 simp only[Option.some.injEq]at h
 subst h
 go_enter Tryz.func52,Tryz.ntmps52
 go_wp2_with (first|(refine gd 2 rfl ?_;refine kbk 2 #[.slice ac aa.length ad,.bool false] 90 K.u ?_;clear K;intro g1 W2 K)|(refine gd 3 rfl ?_;refine kbk 3 #[.slice ae ab.length af,.bool false] 90 K.u ?_;clear K;intro g3 W4 K;obtain⟨ua0,ub0⟩:=K.cell2 0 rfl;obtain⟨ua1,ub1⟩:=K.cell2 1 rfl)|(refine gd 33 rfl ?_;clear ua0 ub0 ua1 ub1;refine kgl (some 33) rfl rfl Tryz.func95 #[.slice ac aa.length ad,.slice ae ab.length af] rfl ?_;refine(whole_amount_cmp.calls _ _ _ aa _ _ ab n5 _ (K.C 0 rfl) (K.le 0 rfl) (K.C 1 rfl) (K.le 1 rfl) A6.out).mono ?_;rintro e W7 ⟨rfl,hb⟩;refine⟨_,rfl,?_⟩;replace K:=K.u.up hb.below;clear hb))
 go_ret
 exact⟨rfl,K.u.below⟩
def whole_Cmp.f (k:Nat) (a0_0:Bool) (l0_1:List Int) (a1_0:Bool) (l1_1:List Int):Option (Int):=(whole_of.f k a0_0 l0_1).bind fun bt750=>((whole_of.f k a1_0 l1_1).bind fun bt754=>((whole_number_cmp.f k bt750.1 bt750.2 bt754.1 bt754.2).bind fun t758=>(some t758)))
theorem whole_Cmp.mono:∀a0 a1 a2 a3 k,LeO (whole_Cmp.f k a0 a1 a2 a3) (whole_Cmp.f (k+1) a0 a1 a2 a3):=by
 intro a0 a1 a2 a3 k
 unfold whole_Cmp.f
 repeat' first
   | (with_reducible exact whole_number_cmp.mono _ _ _ _ _)
   | (with_reducible exact whole_of.mono _ _ _)
   | (with_reducible exact LeO.refl _)
   | (with_reducible exact LeO.none _)
   | (with_reducible refine LeO.ite ?_ ?_)
   | (with_reducible refine LeO.bind ?_ (fun _=>?_))
   | exact whole_number_cmp.mono _ _ _ _ _
   | exact whole_of.mono _ _ _
   | exact LeO.none _
   | refine LeO.ite ?_ ?_
   | refine LeO.bind ?_ (fun _=>?_)
theorem whole_Cmp.calls (k:Nat) (ac:Bool) (ae:Option Addr) (af:Nat) (aa:List Int) (ad:Bool) (ag:Option Addr) (ah:Nat) (ab:List Int) (r:Int) (w:World) (ai:Kd.C (Kd.int .u64) w ae aa.length aa) (aj:aa.length≤af) (ak:Kd.C (Kd.int .u64) w ag ab.length ab) (al:ab.length≤ah) (h:whole_Cmp.f k ac aa ad ab=some r) :
  Calls Tryz.prog 28 #[.agg #[.bool ac,.slice ae aa.length af],.agg #[.bool ad,.slice ag ab.length ah]] w fun e w'=>e=.returned (.int .i64 r)∧Below w.heap.size w w':=by
 have ao:=Tryz.underlying43
 have K:=Kp.refl w
 replace K:=K.parV (Kd.V_mono (ok':=fun _=>True) (Kd.V_mk (e:=48) (base:=0) aj (Kd.C_F (Kd.heap_int .u64) ai)) (fun _ h=>trivial))
 clear ai aj
 replace K:=K.parV (Kd.V_mono (ok':=fun _=>True) (Kd.V_mk (e:=48) (base:=0) al (Kd.C_F (Kd.heap_int .u64) ak)) (fun _ h=>trivial))
 clear ak al
 try simp only[klv]at K
 rw[whole_Cmp.f]at h
 go_enter Tryz.func28,Tryz.ntmps28
 go_wp2_with (first|(refine gd 2 rfl ?_;refine kbk 2 #[.bool ac,.slice ae aa.length af] 43 K.u ?_;clear K;intro g1 W2 K)|(refine gd 3 rfl ?_;refine kbk 3 #[.bool ad,.slice ag ab.length ah] 43 K.u ?_;clear K;intro g3 W4 K))
 replace h:=bindA h
 obtain⟨⟨x5,z6⟩,A7,h⟩:=h
 dsimp only at h
 replace h:=bindA h
 obtain⟨⟨x8,z9⟩,A10,h⟩:=h
 dsimp only at h
 replace h:=bindA h
 obtain⟨n11,A12,h⟩:=h
 obtain⟨Bs,Vs,Os,hBs,hVs,hOs,K⟩:=K.abs
 have HS:Aside0 (∀l m o W,Kp w (Bs++l) m o W→W.cell? ⟨g1,0,none⟩=some (.bool ac)∧W.cell? ⟨g1,1,none⟩=some (.slice ae aa.length af)∧W.cell? ⟨g3,0,none⟩=some (.bool ad)∧W.cell? ⟨g3,1,none⟩=some (.slice ag ab.length ah)):=⟨fun l m o W K=>by rw[hBs.out]at K;exact⟨K.cell 0 rfl 0 rfl,K.cell 0 rfl 1 rfl,K.cell 1 rfl 0 rfl,K.cell 1 rfl 1 rfl⟩⟩
 refine kpstart (n:=6) (ds:=[]) (S:=fun W=>W.cell? ⟨g1,0,none⟩=some (.bool ac)∧W.cell? ⟨g1,1,none⟩=some (.slice ae aa.length af)∧W.cell? ⟨g3,0,none⟩=some (.bool ad)∧W.cell? ⟨g3,1,none⟩=some (.slice ag ab.length ah)) (bm_ 6 0) Z0 rfl rfl K (HS.out [] _ _) (fun W15 K hH=>?_)
 refine tk_ 0 5 ?_ (bm_ 6 1) rfl rfl Z0 (fun _ _ _ h=>h) B0 ?_ hH ?_ ?_ ?_
 rotate_left
 ·rintro w' ⟨s0,s1,s2,s3⟩
  go_simp
  with_reducible rfl
 rotate_left
 ·simp only[Act.put,kss,i64_w,i32_w]
  rfl
 refine tk_ 2 7 ?_ (bm_ 6 5) rfl rfl Z0 (fun _ _ _ h=>h) B0 ?_ hH ?_ ?_ ?_
 rotate_left
 ·rintro w' ⟨s0,s1,s2,s3⟩
  go_simp
  with_reducible rfl
 rotate_left
 ·simp only[Act.put,kss,i64_w,i32_w]
  rfl
 refine one_ (i:=1) (N:=some 6) (bm_ 6 7) rfl rfl Z0 X0 (fun Kc hK=>?_)
 refine kgo Tryz.func51 #[.agg #[.bool ac,.slice ae aa.length af]] B0 rfl rfl ?_
 refine(whole_of.calls _ ac _ _ _ aa x5 z6 _ (K.V 0 (hv hVs rfl)) A7.out).mono ?_
 rintro e W' ⟨v13,rfl,am,hb⟩
 replace K:=K.addI 0 (fun _=>True) hb am (fun _ h=>h.t)
 clear hb am
 refine⟨_,rfl,hK.out _ _ (HS.out _ _ _ _ K) fun hH=>?_⟩
 clear hK Kc
 refine norm_ (a':=?_) ?_ ?_
 rotate_left
 ·show Act.put _ (some 6) _=_
  simp only[Act.put,kss,i64_w,i32_w]
  rfl
 refine one_ (i:=3) (N:=some 8) (bm_ 6 15) rfl rfl Z0 X0 (fun Kc hK=>?_)
 refine kgo Tryz.func51 #[.agg #[.bool ad,.slice ag ab.length ah]] B0 rfl rfl ?_
 refine(whole_of.calls _ ad _ _ _ ab x8 z9 _ (K.V 1 (hv hVs rfl)) A10.out).mono ?_
 rintro e W' ⟨v14,rfl,an,hb⟩
 replace K:=K.addI 1 (fun _=>True) hb an (fun _ h=>h.t)
 clear hb an
 refine⟨_,rfl,hK.out _ _ (HS.out _ _ _ _ K) fun hH=>?_⟩
 clear hK Kc
 refine norm_ (a':=?_) ?_ ?_
 rotate_left
 ·show Act.put _ (some 8) _=_
  simp only[Act.put,kss,i64_w,i32_w]
  rfl
 refine one_ (i:=4) (N:=some 9) (bm_ 6 31) rfl rfl Z0 X0 (fun Kc hK=>?_)
 obtain⟨P18,c19,e20⟩:=K.slice 2 (hv hVs rfl)
 subst e20
 obtain⟨P21,c22,e23⟩:=K.slice 3 (hv hVs rfl)
 subst e23
 refine kgo Tryz.func52 #[.agg #[.slice P18 x5.length c19,.bool z6],.agg #[.slice P21 x8.length c22,.bool z9]] B0 rfl rfl ?_
 refine(whole_number_cmp.calls _ _ _ x5 z6 _ _ x8 z9 n11 _ (K.C 2 (hv hVs rfl)) (K.le 2 (hv hVs rfl)) (K.C 3 (hv hVs rfl)) (K.le 3 (hv hVs rfl)) A12.out).mono ?_
 rintro e W' ⟨rfl,hb⟩
 replace K:=K.up hb
 clear hb
 refine⟨_,rfl,hK.out _ _ (HS.out _ _ _ _ K) fun hH=>?_⟩
 refine norm_ (a':=?_) ?_ ?_
 rotate_left
 ·show Act.put _ (some 9) _=_
  simp only[Act.put,kss,i64_w,i32_w]
  rfl
 refine pu_ 5 4 ?_ (bm_ 6 63) rfl rfl Z0 (fun _ _ _ h=>h) B0 ?_ ?_ ?_ ?_
 rotate_left
 ·intro w'
  go_simp
  with_reducible rfl
 rotate_left
 ·simp only[Act.put,kss,i64_w,i32_w]
  rfl
 clear hK Kc
 rw[hBs.out,hVs.out,hOs.out]at K
 simp only[kls,klv]at K
 clear hBs hVs hOs HS hH
 refine done_ Z0 ?_
 simp only[Option.some.injEq]at h
 subst h
 go_wp2
 go_ret
 exact⟨rfl,K.u.below⟩
def whole_number_out.f (l0_0:List Int) (a0_1:Bool):Option (Bool×List Int):=(api_Nat_uint64.f l0_0).bind fun t116=>(some (a0_1,t116))
theorem whole_number_out.calls (ai:Option Addr) (aj:Nat) (ae:List Int) (af:Bool) (r1:Bool) (r2:List Int) (w:World) (ak:Kd.C (Kd.int .u64) w ai ae.length ae) (al:ae.length≤aj) (h:whole_number_out.f ae af=some (r1,r2)) :
  Calls Tryz.prog 153 #[.agg #[.slice ai ae.length aj,.bool af]] w fun e w'=>∃v1_:Value,e=.returned (.agg #[.bool r1,v1_])∧Kd.R (Kd.int .u64) 48 w' w.heap.size (fun _=>True) v1_ r2∧Below w.heap.size w w':=by
 have aA:=Tryz.underlying90
 have aB:=Tryz.underlying43
 have ao:=Aside0.mk ak
 have ap:=Aside0.mk al
 clear ak al
 have HB:=Aside0.mk (Below.refl w.heap.size w)
 have H:((api_Nat_uint64.f ae).bind fun ag=>(some (af,ag)))=some (r1,r2):=h
 clear h
 replace H:=Option.bind_eq_some_iff.mp H
 obtain⟨ag,A20,H⟩:=H
 replace H:(some (af,ag))=some (r1,r2):=H
 have A2:=Aside0.mk A20
 clear A20
 simp only[Option.some.injEq,Prod.mk.injEq]at H
 obtain⟨rfl,rfl⟩:=H
 go_enter Tryz.func153,Tryz.ntmps153
 try go_wp2_with (first|(refine gd 1 rfl ?_;refine kbe 1 #[.slice ai ae.length aj,.bool af] 90 ?_;intro am hg w3 hbox hb;have aa:=Aside0.mk (hbox);have ay:=kbz hg HB;have aq:=kbz hg HB;replace HB:=kbs HB hb;clear hb hbox hg)|(refine gd 2 rfl ?_;refine kbe 2 #[.bool false,.slice none 0 0] 43 ?_;intro ad hg w4 hbox hb;have ac:=Aside0.mk (hbox);have az:=kbz hg HB;have ar:=kbz hg HB;replace HB:=kbs HB hb;have ab:=knl hg aa;have ah:=kng hg aa;replace aa:=kbb aa hb;clear hb hbox hg))
 replace aa:=Aside0.mk (blk_drew aa.out);replace ac:=Aside0.mk (blk_drew ac.out);replace HB:=Aside0.mk (below_drew1 HB.out)
 refine start_ (n:=7) (S:=fun w'=>w'.cell? ⟨am,0,none⟩=some (.slice ai ae.length aj)∧w'.cell? ⟨am,1,none⟩=some (.bool af)) (ds:=[]) (bm_ 7 0) Z0 rfl rfl ⟨(blk_cell aa.out 0).trans rfl,(blk_cell aa.out 1).trans rfl⟩ (fun hHeld=>?_)
 generalize w4.drew=w5 at aa ac HB hHeld ⊢
 refine pu_ 0 3 ?_ (bm_ 7 1) rfl rfl Z0 (fun _ _ _ h=>h) B0 ?_ ?_ ?_ ?_
 rotate_left
 ·intro w'
  go_simp
  with_reducible rfl
 rotate_left
 ·simp only[Act.put,kss,i64_w,i32_w]
  rfl
 refine pu_ 2 5 ?_ (bm_ 7 5) rfl rfl Z0 (fun _ _ _ h=>h) B0 ?_ ?_ ?_ ?_
 rotate_left
 ·intro w'
  go_simp
  with_reducible rfl
 rotate_left
 ·simp only[Act.put,kss,i64_w,i32_w]
  rfl
 refine tk_ 1 4 ?_ (bm_ 7 7) rfl rfl Z0 (fun _ _ _ h=>h) B0 ?_ hHeld ?_ ?_ ?_
 rotate_left
 ·rintro w' ⟨s0,s1⟩
  go_simp
  with_reducible rfl
 rotate_left
 ·simp only[Act.put,kss,i64_w,i32_w]
  rfl
 refine tk_ 3 6 ?_ (bm_ 7 15) rfl rfl Z0 (fun _ _ _ h=>h) B0 ?_ hHeld ?_ ?_ ?_
 rotate_left
 ·rintro w' ⟨s0,s1⟩
  go_simp
  with_reducible rfl
 rotate_left
 ·simp only[Act.put,kss,i64_w,i32_w]
  rfl
 refine one_ (i:=4) (N:=some 7) (bm_ 7 31) rfl rfl Z0 X0 (fun K hK=>?_)
 refine kgo Tryz.func91 #[.slice ai ae.length aj] B0 rfl rfl ?_
 with_reducible refine(api_Nat_uint64.calls _ _ ae ag _ ?side1 ?side2 A2.out).mono ?_
 (case side1=>repeat (first|exact(Kd.C_below ao.out HB.out)|(with_reducible refine Kd.C_alloc ?_ _)|(with_reducible refine Kd.C_drewN ?_ _)|(with_reducible refine Kd.C_drew ?_)))
 (case side2=>exact ap.out)
 rintro e w6 ⟨aC,rfl,ho0,hb⟩
 refine⟨_,rfl,?_⟩
 have an:=Aside0.mk (Kd.R_lower ho0 (below_size (khu HB.out)));replace aa:=kbb aa hb;replace ac:=kbb ac hb;replace HB:=kbs HB hb
 (try clear hb);(try clear hb2);(try clear hk);(try clear hi);(try clear ho0)
 obtain⟨Ao7,co7,eo7⟩:=Kd.R_slice an.out
 (first|subst eo7|(injection eo7 with f1_ f2_ f3_;have f4_:=f1_.symm;have f5_:=f3_.symm;clear f1_ f2_ f3_;subst f4_;subst f5_))
 refine hK.out _ _ ⟨(blk_cell aa.out 0).trans rfl,(blk_cell aa.out 1).trans rfl⟩ (fun hHeld=>?_)
 clear hK K
 refine norm_ (a':=?_) ?_ ?_
 rotate_left
 ·show Act.put _ (some 7) _=_
  simp only[Act.put,kss,i64_w,i32_w]
  rfl
 refine pu_ 5 8 ?_ (bm_ 7 63) rfl rfl Z0 (fun _ _ _ h=>h) B0 ?_ ?_ ?_ ?_
 rotate_left
 ·intro w'
  go_simp
  with_reducible rfl
 rotate_left
 ·simp only[Act.put,kss,i64_w,i32_w]
  rfl
 refine one_ (i:=6) (N:=none) (bm_ 7 127) rfl rfl Z0 X0 (fun K hK=>?_)
 have hs8:w6.cell? ⟨ad,0,none⟩=some (.bool false):=(blk_cell ac.out 0).trans rfl
 have aD:=blk_frozen ac.out 0
 have au:=ab.out
 have av:=ah.out
 have hs9:w6.cell? ⟨ad,1,none⟩=some (.slice none 0 0):=(blk_cell ac.out 1).trans rfl
 have aE:=blk_frozen ac.out 1
 have aw:=ab.out
 have ax:=ah.out
 refine skip_ (w1:=?_) B0 rfl ?_ ?_
 rotate_left
 ·go_simp
  rfl
 refine hK.out _ _ ⟨((cell_far (p:=⟨ad,_,none⟩) ab.out _).trans (((cell_far (p:=⟨ad,_,none⟩) ab.out _).trans (hHeld.1)))),((cell_far (p:=⟨ad,_,none⟩) ab.out _).trans (((cell_far (p:=⟨ad,_,none⟩) ab.out _).trans (hHeld.2))))⟩ (fun hHeld=>?_)
 clear hK K
 refine done_ Z0 ?_
 try go_wp2
 refine bodyPost_ret (results_cell_row rfl _ _ ad 43 #[.bool af,.slice Ao7 ag.length co7] (0,0) _ rfl (kpu #[.bool af,.slice none 0 0] 1 (kpu #[.bool false,.slice none 0 0] 0 (kbu ac.out))) Tryz.underlying43 rfl Z0) rfl ?_
 exact⟨_,Z1,by(with_reducible repeat (first|apply Kd.R_alloc|apply Kd.R_drewN|apply Kd.R_drew));exact Kd.R_mono (Kd.R_far (p:=⟨ad,1,none⟩) (Kd.R_far (p:=⟨ad,0,none⟩) (Kd.R_types an.out ac.out X0) (fun _ hk=>hk.2) (.bool af)) (fun _ hk=>hk.2) (.slice Ao7 ag.length co7)) (fun _ hk=>trivial),by repeat (first|(with_reducible first|exact HB.out|apply below_alloc|apply pw_below_drewN|apply below_drew1|refine below_set ?_ aq.out|refine below_set ?_ ar.out)|exact HB.out)⟩
def whole_Norm.f (k:Nat) (a0_0:Bool) (l0_1:List Int):Option (Bool×List Int):=(whole_of.f k a0_0 l0_1).bind fun bt761=>((whole_number_out.f bt761.1 bt761.2).bind fun bt765=>(some (bt765.1,bt765.2)))
theorem whole_Norm.mono:∀a0 a1 k,LeO (whole_Norm.f k a0 a1) (whole_Norm.f (k+1) a0 a1):=by
 intro a0 a1 k
 unfold whole_Norm.f
 repeat' first
   | (with_reducible exact whole_of.mono _ _ _)
   | (with_reducible exact LeO.refl _)
   | (with_reducible exact LeO.none _)
   | (with_reducible refine LeO.ite ?_ ?_)
   | (with_reducible refine LeO.bind ?_ (fun _=>?_))
   | exact whole_of.mono _ _ _
   | exact LeO.none _
   | refine LeO.ite ?_ ?_
   | refine LeO.bind ?_ (fun _=>?_)
theorem whole_Norm.calls (k:Nat) (ab:Bool) (ac:Option Addr) (ad:Nat) (aa:List Int) (r1:Bool) (r2:List Int) (w:World) (ae:Kd.C (Kd.int .u64) w ac aa.length aa) (af:aa.length≤ad) (h:whole_Norm.f k ab aa=some (r1,r2)) :
  Calls Tryz.prog 87 #[.agg #[.bool ab,.slice ac aa.length ad]] w fun e w'=>∃v1_:Value,e=.returned (.agg #[.bool r1,v1_])∧Kd.R (Kd.int .u64) 48 w' w.heap.size (fun _=>True) v1_ r2∧Below w.heap.size w w':=by
 have ah:=Tryz.underlying43
 have K:=Kp.refl w
 replace K:=K.parV (Kd.V_mono (ok':=fun _=>True) (Kd.V_mk (e:=48) (base:=0) af (Kd.C_F (Kd.heap_int .u64) ae)) (fun _ h=>trivial))
 clear ae af
 try simp only[klv]at K
 rw[whole_Norm.f]at h
 replace h:=bindA h
 obtain⟨⟨x5,z6⟩,A7,h⟩:=h
 dsimp only at h
 replace h:=bindA h
 obtain⟨⟨z14,x15⟩,A16,h⟩:=h
 dsimp only at h
 simp only[Option.some.injEq,Prod.mk.injEq]at h
 obtain⟨rfl,rfl⟩:=h
 go_enter Tryz.func87,Tryz.ntmps87
 go_wp2_with (first|(refine gd 1 rfl ?_;refine kbk 1 #[.bool ab,.slice ac aa.length ad] 43 K.u ?_;clear K;intro g1 W2 K)|(refine gd 2 rfl ?_;refine kbk 2 #[.bool false,.slice none 0 0] 43 K.u ?_;clear K;intro g3 W4 K;obtain⟨ua0,ub0⟩:=K.cell2 0 rfl)|(refine gd 4 rfl ?_;clear ua0 ub0;refine kgl (some 4) rfl rfl Tryz.func51 #[.agg #[.bool ab,.slice ac aa.length ad]] rfl ?_;refine(whole_of.calls _ ab _ _ _ aa x5 z6 _ (K.V 0 rfl) A7.out).mono ?_;rintro e W10 ⟨v8,rfl,ho9,hb⟩;refine⟨_,rfl,?_⟩;replace K:=K.u.add (fun _=>True) hb ho9 (fun _ h=>h.t);clear hb ho9;obtain⟨P11,c12,e13⟩:=K.slice 1 rfl;subst e13)|(refine gd 5 rfl ?_;refine kgl (some 5) rfl rfl Tryz.func153 #[.agg #[.slice P11 x5.length c12,.bool z6]] rfl ?_;refine(whole_number_out.calls _ _ x5 z6 z14 x15 _ (K.C 1 rfl) (K.le 1 rfl) A16.out).mono ?_;rintro e W19 ⟨v17,rfl,ag,hb⟩;refine⟨_,rfl,?_⟩;replace K:=K.u.addRE hb ag;clear hb ag;obtain⟨P20,c21,e22⟩:=K.slice 2 rfl;subst e22)|(refine gs 43 2 5 rfl ?_;refine ks2 1 (.bool z14) (.slice P20 x15.length c21) K.u rfl ?_;clear K;intro W23 K;simp only[kls,klv]at K))
 refine bodyPost_ret (results_single rfl (.cell g3 43 #[.bool z14,.slice P20 x15.length c21] (0,0) _ rfl (K.u.heap 1 rfl) Tryz.underlying43 rfl Z0 .nil)) rfl ?_
 exact⟨_,rfl,K.u.R 0 rfl,K.u.below⟩
def bits_u.f (k:Nat) (a0_0:Int) (l0_1:List Int):Option (Bool×List Int):=(whole_Norm.f k false l0_1).bind fun bt771=>(some (bt771.1,bt771.2))
theorem bits_u.mono:∀a0 a1 k,LeO (bits_u.f k a0 a1) (bits_u.f (k+1) a0 a1):=by
 intro a0 a1 k
 unfold bits_u.f
 repeat' first
   | (with_reducible exact whole_Norm.mono _ _ _)
   | (with_reducible exact LeO.refl _)
   | (with_reducible exact LeO.none _)
   | (with_reducible refine LeO.ite ?_ ?_)
   | (with_reducible refine LeO.bind ?_ (fun _=>?_))
   | exact whole_Norm.mono _ _ _
   | exact LeO.none _
   | refine LeO.ite ?_ ?_
   | refine LeO.bind ?_ (fun _=>?_)
theorem bits_u.calls (k:Nat) (ad:Int) (ab:Option Addr) (ac:Nat) (aa:List Int) (r1:Bool) (r2:List Int) (w:World) (ae:Kd.C (Kd.int .u64) w ab aa.length aa) (af:aa.length≤ac) (h:bits_u.f k ad aa=some (r1,r2)) :
  Calls Tryz.prog 43 #[.agg #[.int .i64 ad,.slice ab aa.length ac]] w fun e w'=>∃v1_:Value,e=.returned (.agg #[.bool r1,v1_])∧Kd.R (Kd.int .u64) 48 w' w.heap.size (fun _=>True) v1_ r2∧Below w.heap.size w w':=by
 have ag:=Tryz.underlying28
 have ah:=Tryz.underlying43
 have K:=Kp.refl w
 replace K:=K.parV (Kd.V_mono (ok':=fun _=>True) (Kd.V_mk (e:=48) (base:=0) af (Kd.C_F (Kd.heap_int .u64) ae)) (fun _ h=>trivial))
 clear ae af
 try simp only[klv]at K
 rw[bits_u.f]at h
 replace h:=bindA h
 obtain⟨⟨z5,x6⟩,A7,h⟩:=h
 dsimp only at h
 simp only[Option.some.injEq,Prod.mk.injEq]at h
 obtain⟨rfl,rfl⟩:=h
 go_enter Tryz.func43,Tryz.ntmps43
 go_wp2_with (first|(refine gd 1 rfl ?_;refine kbk 1 #[.int .i64 ad,.slice ab aa.length ac] 28 K.u ?_;clear K;intro g1 W2 K)|(refine gd 2 rfl ?_;refine kbk 2 #[.bool false,.slice none 0 0] 43 K.u ?_;clear K;intro g3 W4 K;obtain⟨ua0,ub0⟩:=K.cell2 0 rfl)|(refine gd 6 rfl ?_;clear ua0 ub0;refine kgl (some 6) rfl rfl Tryz.func87 #[.agg #[.bool false,.slice ab aa.length ac]] rfl ?_;refine(whole_Norm.calls _ false _ _ aa z5 x6 _ (K.C 0 rfl) (K.le 0 rfl) A7.out).mono ?_;rintro e W10 ⟨v8,rfl,ho9,hb⟩;refine⟨_,rfl,?_⟩;replace K:=K.u.addRE hb ho9;clear hb ho9;obtain⟨P11,c12,e13⟩:=K.slice 1 rfl;subst e13)|(refine gs 43 2 6 rfl ?_;refine ks2 1 (.bool z5) (.slice P11 x6.length c12) K.u rfl ?_;clear K;intro W14 K;simp only[kls,klv]at K))
 refine bodyPost_ret (results_single rfl (.cell g3 43 #[.bool z5,.slice P11 x6.length c12] (0,0) _ rfl (K.u.heap 1 rfl) Tryz.underlying43 rfl Z0 .nil)) rfl ?_
 exact⟨_,rfl,K.u.R 0 rfl,K.u.below⟩
def whole_signed.f (l0:List Int) (a1:Bool):Option (List Int×Bool):=if a1=true then((whole_amount_null.f l0).bind fun t113=>(some (l0,!t113))) else(some (l0,false))
theorem whole_signed.calls (P0_:Nat→Prop) (A0:Option Addr) (c0:Nat) (l0:List Int) (a1:Bool) (r1:List Int) (r2:Bool) (w:World) (hs0:Kd.V (Kd.int .u64) 48 w w.heap.size (fun k_=>P0_ k_) (.slice A0 l0.length c0) l0) (h:whole_signed.f l0 a1=some (r1,r2)) :
  Calls Tryz.prog 144 #[.slice A0 l0.length c0,.bool a1] w fun e w'=>∃v0_:Value,e=.returned (.agg #[v0_,.bool r2])∧Kd.V (Kd.int .u64) 48 w' w.heap.size (fun k_=>(P0_ k_∨w.heap.size≤k_)) v0_ r1∧Below w.heap.size w w':=by
 have aa:=Tryz.underlying90
 have K:=Kp.refl w
 replace K:=K.parV (Kd.V_mono (ok':=fun k=>P0_ k) hs0 (fun _ h=>h))
 clear hs0
 try simp only[klv]at K
 rw[whole_signed.f]at h
 by_cases c_0:a1=true
 ·subst c_0
  rw[if_pos rfl]at h
  replace h:=bindA h
  obtain⟨z3,A4,h⟩:=h
  simp only[Option.some.injEq,Prod.mk.injEq]at h
  obtain⟨rfl,rfl⟩:=h
  go_enter Tryz.func144,Tryz.ntmps144
  go_wp2_with (first|(refine gd 4 rfl ?_;refine kbk 4 #[.slice none 0 0,.bool false] 90 K.u ?_;clear K;intro g1 W2 K)|(refine gd 9 rfl ?_;refine gate_guard B0 ?_;refine kgl (some 9) rfl rfl Tryz.func94 #[.slice A0 l0.length c0] rfl ?_;refine(whole_amount_null.calls _ _ l0 z3 _ (K.C 0 rfl) (K.le 0 rfl) A4.out).mono ?_;rintro e W5 ⟨rfl,hb⟩;refine⟨_,rfl,?_⟩;replace K:=K.u.up hb.below;clear hb)|(refine gs 90 4 12 rfl ?_;refine ks2 0 (.slice A0 l0.length c0) (.bool !z3) K.u rfl ?_;clear K;intro W6 K;simp only[kls,klv]at K))
  refine bodyPost_ret (results_single rfl (.cell g1 90 #[.slice A0 l0.length c0,.bool !z3] (0,0) _ rfl (K.u.heap 0 rfl) Tryz.underlying90 rfl Z0 .nil)) rfl ?_
  exact⟨_,rfl,K.u.hand 0 rfl (fun k_ h=>h.elim (fun h=>.inl h) .inr),K.u.below⟩
 replace c_0:=Bool.eq_false_iff.mpr c_0
 subst c_0
 rw[if_neg X0]at h
 simp only[Option.some.injEq,Prod.mk.injEq]at h
 obtain⟨rfl,rfl⟩:=h
 go_enter Tryz.func144,Tryz.ntmps144
 go_wp2_with (first|(refine gd 4 rfl ?_;refine kbk 4 #[.slice none 0 0,.bool false] 90 K.u ?_;clear K;intro g1 W2 K)|(refine gs 90 4 12 rfl ?_;refine ks2 0 (.slice A0 l0.length c0) (.bool false) K.u rfl ?_;clear K;intro W3 K;simp only[kls,klv]at K))
 refine bodyPost_ret (results_single rfl (.cell g1 90 #[.slice A0 l0.length c0,.bool false] (0,0) _ rfl (K.u.heap 0 rfl) Tryz.underlying90 rfl Z0 .nil)) rfl ?_
 exact⟨_,rfl,K.u.hand 0 rfl (fun k_ h=>h.elim (fun h=>.inl h) .inr),K.u.below⟩
mutual
def whole_amount_plus.j0:Nat→List Int→List Int→Option (List Int)
 | 0,_,_=>none
 | k+1,x0,x1=>if 0≤(wrap64 ((x0.length:Int)+1)) then(if(wrap64 ((x0.length:Int)+1):Int).toNat≤35184372088832 then(whole_amount_plus.l0 k x0 x1 (([]:List Int)) 0 (x0.length:Int) 0) else(none)) else(none)
def whole_amount_plus.l0:Nat→List Int→List Int→List Int→Int→Int→Int→Option (List Int)
 | 0,_,_,_,_,_,_=>none
 | k+1,x0,x1,x5,x6,x23,x24=>if x24<x23 then(if x24<(x1.length:Int) then(if 0≤x24 then(if x24<(x0.length:Int) then((bits_Add64.f (rd x0 x24) (rd x1 x24) x6).bind fun bt341=>(if x5.length<17592186044416 then(whole_amount_plus.l0 k x0 x1 (x5++[bt341.1]) bt341.2 x23 (wrap64 (x24+1))) else(none))) else(none)) else(none)) else(if 0≤x24 then(if x24<(x0.length:Int) then((bits_Add64.f (rd x0 x24) 0 x6).bind fun bt347=>(if x5.length<17592186044416 then(whole_amount_plus.l0 k x0 x1 (x5++[bt347.1]) bt347.2 x23 (wrap64 (x24+1))) else(none))) else(none)) else(none))) else(if x5.length<17592186044416 then((whole_trimmed.f k (x5++[x6])).bind fun t355=>(some t355)) else(none))
end
def whole_amount_plus.f (k:Nat) (l0:List Int) (l1:List Int):Option (List Int):=if(l0.length:Int)<(l1.length:Int) then(whole_amount_plus.j0 k l1 l0) else(whole_amount_plus.j0 k l0 l1)
theorem whole_amount_plus.mono_l:∀k,(∀y0 y1,LeO (whole_amount_plus.j0 k y0 y1) (whole_amount_plus.j0 (k+1) y0 y1))∧(∀y0 y1 y2 y3 y4 y5,LeO (whole_amount_plus.l0 k y0 y1 y2 y3 y4 y5) (whole_amount_plus.l0 (k+1) y0 y1 y2 y3 y4 y5))
 | 0=>⟨fun _ _ r h=>by simp[whole_amount_plus.j0]at h,fun _ _ _ _ _ _ r h=>by simp[whole_amount_plus.l0]at h⟩
 | k+1=>by
  obtain⟨ih0,ih1⟩:=whole_amount_plus.mono_l k
  refine⟨?_,?_⟩
  ·intro y0 y1
   unfold whole_amount_plus.j0
   repeat' first
   | (with_reducible exact ih0 _ _)
   | (with_reducible exact ih1 _ _ _ _ _ _)
   | (with_reducible exact whole_trimmed.mono _ _)
   | (with_reducible exact LeO.refl _)
   | (with_reducible exact LeO.none _)
   | (with_reducible refine LeO.ite ?_ ?_)
   | (with_reducible refine LeO.bind ?_ (fun _=>?_))
   | exact ih0 _ _
   | exact ih1 _ _ _ _ _ _
   | exact whole_trimmed.mono _ _
   | exact LeO.none _
   | refine LeO.ite ?_ ?_
   | refine LeO.bind ?_ (fun _=>?_)
  intro y0 y1 y2 y3 y4 y5
  unfold whole_amount_plus.l0
  repeat' first
  | (with_reducible exact ih0 _ _)
  | (with_reducible exact ih1 _ _ _ _ _ _)
  | (with_reducible exact whole_trimmed.mono _ _)
  | (with_reducible exact LeO.refl _)
  | (with_reducible exact LeO.none _)
  | (with_reducible refine LeO.ite ?_ ?_)
  | (with_reducible refine LeO.bind ?_ (fun _=>?_))
  | exact ih0 _ _
  | exact ih1 _ _ _ _ _ _
  | exact whole_trimmed.mono _ _
  | exact LeO.none _
  | refine LeO.ite ?_ ?_
  | refine LeO.bind ?_ (fun _=>?_)
theorem whole_amount_plus.mono:∀a0 a1 k,LeO (whole_amount_plus.f k a0 a1) (whole_amount_plus.f (k+1) a0 a1):=by
 intro a0 a1 k
 obtain⟨ih0,ih1⟩:=whole_amount_plus.mono_l k
 unfold whole_amount_plus.f
 repeat' first
   | (with_reducible exact ih0 _ _)
   | (with_reducible exact ih1 _ _ _ _ _ _)
   | (with_reducible exact whole_trimmed.mono _ _)
   | (with_reducible exact LeO.refl _)
   | (with_reducible exact LeO.none _)
   | (with_reducible refine LeO.ite ?_ ?_)
   | (with_reducible refine LeO.bind ?_ (fun _=>?_))
   | exact ih0 _ _
   | exact ih1 _ _ _ _ _ _
   | exact whole_trimmed.mono _ _
   | exact LeO.none _
   | refine LeO.ite ?_ ?_
   | refine LeO.bind ?_ (fun _=>?_)
theorem whole_amount_plus.calls (k:Nat) (P0_:Nat→Prop) (A0:Option Addr) (c0:Nat) (l0:List Int) (P1_:Nat→Prop) (A1:Option Addr) (c1:Nat) (l1:List Int) (r:List Int) (w:World) (hs0:Kd.V (Kd.int .u64) 48 w w.heap.size (fun k_=>P0_ k_) (.slice A0 l0.length c0) l0) (hs1:Kd.V (Kd.int .u64) 48 w w.heap.size (fun k_=>P1_ k_) (.slice A1 l1.length c1) l1) (h:whole_amount_plus.f k l0 l1=some r) :
  Calls Tryz.prog 161 #[.slice A0 l0.length c0,.slice A1 l1.length c1] w fun e w'=>∃v0_:Value,e=.returned (v0_)∧Kd.V (Kd.int .u64) 48 w' w.heap.size (fun k_=>((P0_ k_∨P1_ k_)∨w.heap.size≤k_)) v0_ r∧Below w.heap.size w w':=by
 have HO0:=Aside0.mk (show Kd.V (Kd.int .u64) 48 w w.heap.size (fun k_=>((P0_ k_∨P1_ k_)∨w.heap.size≤k_)) (.slice A0 l0.length c0) l0 from Kd.V_mono hs0 (fun k_ hk=>.inl (.inl hk)))
 have HO1:=Aside0.mk (show Kd.V (Kd.int .u64) 48 w w.heap.size (fun k_=>((P0_ k_∨P1_ k_)∨w.heap.size≤k_)) (.slice A1 l1.length c1) l1 from Kd.V_mono hs1 (fun k_ hk=>.inl (.inr hk)))
 have HB:=Aside0.mk (Below.refl w.heap.size w)
 have H:(if(l0.length:Int)<(l1.length:Int) then(whole_amount_plus.j0 k l1 l0) else(whole_amount_plus.j0 k l0 l1))=some r:=h
 clear h
 have HC3:=Aside0.mk H
 clear H
 go_enter Tryz.func161,Tryz.ntmps161
 go_upto_if 15 with(fail)
 go_cut [0,1] (fun v0 v1 wc=>∃(kq:Nat) (ab:List Int) (af:List Int),Aside0 (whole_amount_plus.j0 kq ab af=some r)∧Aside0 (kq≤k)∧Aside0 (Kd.V (Kd.int .u64) 48 wc w.heap.size (fun k_=>((P0_ k_∨P1_ k_)∨w.heap.size≤k_)) v0 ab)∧Aside0 (Kd.V (Kd.int .u64) 48 wc w.heap.size (fun k_=>((P0_ k_∨P1_ k_)∨w.heap.size≤k_)) v1 af)∧Aside0 (Below w.heap.size w wc))
 case first=>
  have H:=HC3.out
  clear HC3
  by_cases c4:(l0.length:Int)<(l1.length:Int)
  ·rw[if_pos c4]at H
   have ag:decide ((l0.length:Int)<(l1.length:Int))=true:=decide_eq_true c4
   have ap:decide (l0.length<l1.length)=true:=decide_eq_true (Int.ofNat_lt.mp c4)
   clear c4
   (first|rw[ag]|rw[ap]|(simp only[i64_w,i32_w];rw[ag])|skip)
   have H':=Aside0.mk H
   clear H
   go_wp2
   go_meet
   case rel=>exact⟨_,(l1),(l0),H',⟨Z5⟩,⟨kvu HO1.out⟩,⟨kvu HO0.out⟩,⟨khu HB.out⟩⟩
  rw[if_neg c4]at H
  have ag:decide ((l0.length:Int)<(l1.length:Int))=false:=decide_eq_false c4
  have ap:decide (l0.length<l1.length)=false:=decide_eq_false (fun h=>c4 (Int.ofNat_lt.mpr h))
  clear c4
  (first|rw[ag]|rw[ap]|(simp only[i64_w,i32_w];rw[ag])|skip)
  have H':=Aside0.mk H
  clear H
  go_wp2
  go_meet
  case rel=>exact⟨_,(l0),(l1),H',⟨Z5⟩,⟨kvu HO0.out⟩,⟨kvu HO1.out⟩,⟨khu HB.out⟩⟩
 case rest =>
  clear HC3
  try clear c1
  try clear p2
  try clear c4
  try clear ag
  try clear ap
  obtain⟨kq,ab,af,HA,HJ2,ac,ad,HB⟩:=hcut
  cases kq with
  | zero=>exact absurd HA.out (by simp[whole_amount_plus.j0])
  | succ kj2=>
   have H:=HA.out
   clear HA
   simp only[whole_amount_plus.j0]at H
   obtain⟨ji5,hji5⟩:∃j_:Int,(wrap64 ((ab.length:Int)+1))=j_:=⟨_,rfl⟩
   replace H:(if 0≤(ji5) then(if(ji5:Int).toNat≤35184372088832 then(whole_amount_plus.l0 kj2 ab af (([]:List Int)) 0 (ab.length:Int) 0) else(none)) else(none))=some r:=by first|(rw[hji5]at H;exact H)|(simp only[hji5]at H ⊢;exact H)
   have bw:(IntKind.i64.wrap ((ab.length:Int)+1))=ji5:=(i64_w _).trans hji5
   by_cases c6:0≤(ji5)
   ·rw [if_pos c6]at H
    have bg:=eq_true c6
    have bh:decide (0≤(ji5))=true:=decide_eq_true c6
    clear c6
    by_cases c7:(ji5:Int).toNat≤35184372088832
    ·rw [if_pos c7]at H
     have bi:=eq_true c7
     have bj:decide ((ji5:Int).toNat≤35184372088832)=true:=decide_eq_true c7
     clear c7
     obtain⟨aH,ai⟩:∃y_:List Int,y_=(([]:List Int)):=⟨_,rfl⟩
     replace H:(whole_amount_plus.l0 kj2 ab af aH 0 (ab.length:Int) 0)=some r:=by first|(rw[ai];with_reducible exact H)|(have H2_:=(Option.bind_some _ _).symm.trans H;rw[ai];with_reducible exact H2_)|(have H2_:=(Option.bind_some _ _).symm.trans H;with_reducible exact H2_)|with_reducible exact H|(rw[ai];exact H)|exact H
     have aG:=Aside0.mk ai
     clear ai
     have H':=Aside0.mk H
     clear H
     obtain⟨Ao8,co8,eo8⟩:=Kd.V_slice ac.out
     subst eo8
     go_wp2_with (first|(refine gd 21 rfl ?_;refine Kd.R_make0 (Kd.int .u64) _ 48 rfl (N:=21) rfl 25 _ _ rfl ji5 rfl rfl Tryz.underlying25 (.int .u64 0) 8 info48 rfl X0 Y0 0 (ok:=fun _=>True) (okp:=fun _=>True) rfl (fun _ hk=>hk) trivial (of_decide_eq_true ‹_›) (Nat.le_trans (Nat.mul_le_mul_right _ (of_decide_eq_true ‹_›:ji5.toNat≤35184372088832)) Y0) (Below.refl _ _) (Nat.le_refl _) ?_;intro bF w9 ah hb hg_ hnew_;clear hg_ hnew_;(first|rw[←aG.out]at ah|(simp only[Int.reduceToNat]at ah;rw[←aG.out]at ah));replace ac:=Aside0.mk (Kd.V_elder' (kvu ac.out) (Kd.R_base ah) hb);replace ad:=Aside0.mk (Kd.V_elder' (kvu ad.out) (Kd.R_base ah) hb);have aT:=Aside0.mk (Kd.R_lower (Kd.R_newM (M:=fun k_=>(w.heap.size≤k_)) ah (below_size (khu HB.out)) (fun k_ h_=>h_)) (below_size (khu HB.out)));replace HB:=kbs HB hb;clear hb ah))
     go_loopg [5,6,24] kj2 (fun kq v5 v6 v24 w'=>∃(ae:List Int) (an:Int) (aa:Int),v6=.int .u64 an∧v24=.int .i64 aa∧Aside0 (whole_amount_plus.l0 kq ab af ae an (ab.length:Int) aa=some r)∧Aside0 (kq≤kj2)∧Aside0 (Kd.V (Kd.int .u64) 48 w' w.heap.size (fun k_=>((P0_ k_∨P1_ k_)∨w.heap.size≤k_)∧some k_≠(v5:Value).ownBlock) (.slice Ao8 ab.length co8) ab)∧Aside0 (Kd.V (Kd.int .u64) 48 w' w.heap.size (fun k_=>((P0_ k_∨P1_ k_)∨w.heap.size≤k_)∧some k_≠(v5:Value).ownBlock) u1 af)∧Aside0 (Kd.R (Kd.int .u64) 48 w' w.heap.size (fun k_=>(w.heap.size≤k_)) v5 ae)∧Aside0 (Below w.heap.size w w'))
     case atStart=>exact⟨(aH),(0),(0),F0,F0,H',⟨Nat.le_refl _⟩,⟨kvu ac.out⟩,⟨kvu ad.out⟩,⟨by(with_reducible repeat (first|apply Kd.R_alloc|apply Kd.R_drewN|apply Kd.R_drew));exact Kd.R_mono aT.out (fun _ hk=>hk.1)⟩,⟨khu HB.out⟩⟩
     case round=>
      clear H'
      try clear c1
      try clear p2
      try clear c4
      try clear ag
      try clear ap
      try clear c6
      try clear bg
      try clear bh
      try clear p6
      try clear c7
      try clear bi
      try clear bj
      try clear p2
      obtain⟨ae,an,aa,rfl,rfl,HA,HK2,ac,ad,ao,HB⟩:=hrel
      cases gk with
      | zero=>exact absurd HA.out (by simp[whole_amount_plus.l0])
      | succ k2=>
       have H:=HA.out
       clear HA
       simp only[whole_amount_plus.l0]at H
       by_cases c11:aa<(ab.length:Int)
       ·rw [if_pos c11]at H
        have aU:decide (aa<(ab.length:Int))=true:=decide_eq_true c11
        clear c11
        by_cases c12:aa<(af.length:Int)
        ·rw [if_pos c12]at H
         have aV:decide (aa<(af.length:Int))=true:=decide_eq_true c12
         clear c12
         by_cases c13:0≤aa
         ·rw[if_pos c13]at H
          have bx:decide (0≤aa)=true:=decide_eq_true c13
          clear c13
          by_cases c14:aa<(ab.length:Int)
          ·rw[if_pos c14]at H
           have bz:decide (aa<(ab.length:Int))=true:=decide_eq_true c14
           clear c14
           replace H:=Option.bind_eq_some_iff.mp H
           obtain⟨⟨aq,aw⟩,aI,H⟩:=H
           replace H:(if ae.length<17592186044416 then(whole_amount_plus.l0 k2 ab af (ae++[aq]) aw (ab.length:Int) (wrap64 (aa+1))) else(none))=some r:=H
           have A15:=Aside0.mk aI
           clear aI
           by_cases c16:ae.length<17592186044416
           ·rw[if_pos c16]at H
            have aW:=Aside0.mk c16
            clear c16
            obtain⟨aJ,aj⟩:∃y_:List Int,y_=(ae++[aq]):=⟨_,rfl⟩
            replace H:(whole_amount_plus.l0 k2 ab af aJ aw (ab.length:Int) (wrap64 (aa+1)))=some r:=by first|(rw[aj];with_reducible exact H)|(have H2_:=(Option.bind_some _ _).symm.trans H;rw[aj];with_reducible exact H2_)|(have H2_:=(Option.bind_some _ _).symm.trans H;with_reducible exact H2_)|with_reducible exact H|(rw[aj];exact H)|exact H
            have aX:=Aside0.mk aj
            clear aj
            have H':=Aside0.mk H
            clear H
            obtain⟨bG,bH,bk⟩:=Kd.V_slice ad.out
            subst bk
            have ax:0≤(aa:Int):=of_decide_eq_true ‹_›
            have ay:aa<(af.length:Int):=of_decide_eq_true ‹_›
            obtain⟨bA,bl,br⟩:=Kd.at_int (Kd.V_reads' ad.out).2.2 aa ax ay
            cases bl
            replace ax:=eq_true ax
            replace ay:=eq_true ay
            have az:0≤(aa:Int):=of_decide_eq_true ‹_›
            have aA:aa<(ab.length:Int):=of_decide_eq_true ‹_›
            obtain⟨bB,bn,bu⟩:=Kd.at_int (Kd.V_reads' ac.out).2.2 aa az aA
            cases bn
            replace az:=eq_true az
            replace aA:=eq_true aA
            have bI:=bits_Add64.run A15.out
            go_wp2_with (first|((with_reducible refine gate_builtin (b:=.append) (xs:=#[.tmp 45,.tmp 47]) rfl ?_);at_builtin;refine Kd.R_append (Kd.int .u64) (w0:=w) w.heap.size rfl (.tmp 45) (.tmp 47) 25 48 (.int .u64 0) 8 rfl Tryz.underlying25 info48 rfl X0 Y0 u5 ae aq [.int .u64 aq] (fun k_=>(w.heap.size≤k_)) (fun _=>False) rfl rfl ?aP (fun _ hk=>hk.elim) ?aF ?aO ?aB ?aS ?aL ?_;(case aP=>exact rfl);(case aB=>exact(khu HB.out));(case aF=>exact(fun k_ hk=>(Nat.le_trans (below_size (khu HB.out)) hk)));(case aO=>exact(kru ao.out));(case aS=>exact(below_size (khu HB.out)));(case aL=>have:=aW.out;omega);intro bJ w19 ho hb hg hat;rw[←aX.out]at ho;replace ac:=Aside0.mk (Kd.V_afterv (ok:=(fun k_=>((P0_ k_∨P1_ k_)∨w.heap.size≤k_))) (kvu ac.out) hg hat);replace ad:=Aside0.mk (Kd.V_afterv (ok:=(fun k_=>((P0_ k_∨P1_ k_)∨w.heap.size≤k_))) (kvu ad.out) hg hat);replace HB:=Aside0.mk (hb);have aY:=Aside0.mk (ho);clear ao;clear ho hb hg hat))
            go_roundg k2
            case measure=>have:=HJ2.out;have:=HK2.out;omega
            case rel=>exact⟨(aJ),(aw),(wrap64 (aa+1)),F0,F0,H',⟨D6⟩,⟨kvu ac.out⟩,⟨kvu ad.out⟩,⟨kru aY.out⟩,⟨khu HB.out⟩⟩
           rw[if_neg c16]at H
           exact absurd H F1
          rw[if_neg c14]at H
          exact absurd H F1
         rw[if_neg c13]at H
         exact absurd H F1
        rw[if_neg c12]at H
        have aV:decide (aa<(af.length:Int))=false:=decide_eq_false c12
        clear c12
        by_cases c20:0≤aa
        ·rw[if_pos c20]at H
         have bC:decide (0≤aa)=true:=decide_eq_true c20
         clear c20
         by_cases c21:aa<(ab.length:Int)
         ·rw[if_pos c21]at H
          have bD:decide (aa<(ab.length:Int))=true:=decide_eq_true c21
          clear c21
          replace H:=Option.bind_eq_some_iff.mp H
          obtain⟨⟨ar,aC⟩,aK,H⟩:=H
          replace H:(if ae.length<17592186044416 then(whole_amount_plus.l0 k2 ab af (ae++[ar]) aC (ab.length:Int) (wrap64 (aa+1))) else(none))=some r:=H
          have A22:=Aside0.mk aK
          clear aK
          by_cases c23:ae.length<17592186044416
          ·rw[if_pos c23]at H
           have aZ:=Aside0.mk c23
           clear c23
           obtain⟨aM,ak⟩:∃y_:List Int,y_=(ae++[ar]):=⟨_,rfl⟩
           replace H:(whole_amount_plus.l0 k2 ab af aM aC (ab.length:Int) (wrap64 (aa+1)))=some r:=by first|(rw[ak];with_reducible exact H)|(have H2_:=(Option.bind_some _ _).symm.trans H;rw[ak];with_reducible exact H2_)|(have H2_:=(Option.bind_some _ _).symm.trans H;with_reducible exact H2_)|with_reducible exact H|(rw[ak];exact H)|exact H
           have bb:=Aside0.mk ak
           clear ak
           have H':=Aside0.mk H
           clear H
           obtain⟨bK,bL,bo⟩:=Kd.V_slice ad.out
           subst bo
           have aD:0≤(aa:Int):=of_decide_eq_true ‹_›
           have aE:aa<(ab.length:Int):=of_decide_eq_true ‹_›
           obtain⟨bE,bp,bv⟩:=Kd.at_int (Kd.V_reads' ac.out).2.2 aa aD aE
           cases bp
           replace aD:=eq_true aD
           replace aE:=eq_true aE
           have bM:=bits_Add64.run A22.out
           go_wp2_with (first|((with_reducible refine gate_builtin (b:=.append) (xs:=#[.tmp 45,.tmp 47]) rfl ?_);at_builtin;refine Kd.R_append (Kd.int .u64) (w0:=w) w.heap.size rfl (.tmp 45) (.tmp 47) 25 48 (.int .u64 0) 8 rfl Tryz.underlying25 info48 rfl X0 Y0 u5 ae ar [.int .u64 ar] (fun k_=>(w.heap.size≤k_)) (fun _=>False) rfl rfl ?aP (fun _ hk=>hk.elim) ?aF ?aO ?aB ?aS ?aL ?_;(case aP=>exact rfl);(case aB=>exact(khu HB.out));(case aF=>exact(fun k_ hk=>(Nat.le_trans (below_size (khu HB.out)) hk)));(case aO=>exact(kru ao.out));(case aS=>exact(below_size (khu HB.out)));(case aL=>have:=aZ.out;omega);intro bN w26 ho hb hg hat;rw[←bb.out]at ho;replace ac:=Aside0.mk (Kd.V_afterv (ok:=(fun k_=>((P0_ k_∨P1_ k_)∨w.heap.size≤k_))) (kvu ac.out) hg hat);replace ad:=Aside0.mk (Kd.V_afterv (ok:=(fun k_=>((P0_ k_∨P1_ k_)∨w.heap.size≤k_))) (kvu ad.out) hg hat);replace HB:=Aside0.mk (hb);have bc:=Aside0.mk (ho);clear ao;clear ho hb hg hat))
           go_roundg k2
           case measure=>have:=HJ2.out;have:=HK2.out;omega
           case rel=>exact⟨(aM),(aC),(wrap64 (aa+1)),F0,F0,H',⟨D6⟩,⟨kvu ac.out⟩,⟨kvu ad.out⟩,⟨kru bc.out⟩,⟨khu HB.out⟩⟩
          rw[if_neg c23]at H
          exact absurd H F1
         rw[if_neg c21]at H
         exact absurd H F1
        rw[if_neg c20]at H
        exact absurd H F1
       rw[if_neg c11]at H
       have aU:decide (aa<(ab.length:Int))=false:=decide_eq_false c11
       clear c11
       by_cases c27:ae.length<17592186044416
       ·rw[if_pos c27]at H
        have bd:=Aside0.mk c27
        clear c27
        obtain⟨au,al⟩:∃y_:List Int,y_=(ae++[an]):=⟨_,rfl⟩
        replace H:((whole_trimmed.f k2 au).bind fun av=>(some av))=some r:=by first|(rw[al];with_reducible exact H)|(have H2_:=(Option.bind_some _ _).symm.trans H;rw[al];with_reducible exact H2_)|(have H2_:=(Option.bind_some _ _).symm.trans H;with_reducible exact H2_)|with_reducible exact H|(rw[al];exact H)|exact H
        have be:=Aside0.mk al
        clear al
        replace H:=Option.bind_eq_some_iff.mp H
        obtain⟨av,aN,H⟩:=H
        replace H:(some av)=some r:=H
        have A28:=Aside0.mk aN
        clear aN
        obtain rfl:=Option.some.inj H
        go_wp2_with (first|((with_reducible refine gate_builtin (b:=.append) (xs:=#[.tmp 51,.tmp 53]) rfl ?_);at_builtin;refine Kd.R_append (Kd.int .u64) (w0:=w) w.heap.size rfl (.tmp 51) (.tmp 53) 25 48 (.int .u64 0) 8 rfl Tryz.underlying25 info48 rfl X0 Y0 u5 ae an [.int .u64 an] (fun k_=>(w.heap.size≤k_)) (fun _=>False) rfl rfl ?aP (fun _ hk=>hk.elim) ?aF ?aO ?aB ?aS ?aL ?_;(case aP=>exact rfl);(case aB=>exact(khu HB.out));(case aF=>exact(fun k_ hk=>(Nat.le_trans (below_size (khu HB.out)) hk)));(case aO=>exact(kru ao.out));(case aS=>exact(below_size (khu HB.out)));(case aL=>have:=bd.out;omega);intro bO w29 ho hb hg hat;rw[←be.out]at ho;replace ac:=Aside0.mk (Kd.V_afterv (ok:=(fun k_=>((P0_ k_∨P1_ k_)∨w.heap.size≤k_))) (kvu ac.out) hg hat);replace ad:=Aside0.mk (Kd.V_afterv (ok:=(fun k_=>((P0_ k_∨P1_ k_)∨w.heap.size≤k_))) (kvu ad.out) hg hat);replace HB:=Aside0.mk (hb);have am:=Aside0.mk (ho);clear ao;clear ho hb hg hat;obtain⟨aQ,aR,bq⟩:=Kd.R_slice am.out;subst bq)|((with_reducible refine gate_callee (f:=93) rfl ?_);refine kgl (some 55) rfl rfl Tryz.func93 #[.slice aQ au.length aR] rfl ?_;(with_reducible refine(whole_trimmed.calls k2 (fun k_=>some k_=(.slice aQ au.length aR:Value).ownBlock) _ _ au av _ ?side1 A28.out).mono ?_);(case side1=>exact Kd.R_V (Kd.R_tight rfl (am.out)));rintro e w31 ⟨bP,rfl,ho0,hb⟩;refine⟨_,rfl,?_⟩;replace ac:=kvb ac hb;replace ad:=kvb ad hb;have bf:=Aside0.mk (Kd.V_lower (Kd.V_mono (ok':=fun k_=>((P0_ k_∨P1_ k_)∨w.heap.size≤k_)) ho0 (fun k_ hk_=>Or.elim hk_ (fun hs_=>(.inr (((am.out).1 k_ hs_.symm)))) (fun hn_=>(.inr (Nat.le_trans (below_size (khu HB.out)) hn_))))) (below_size (khu HB.out)));replace am:=krb am hb;replace HB:=kbs HB hb;(try clear hb);(try clear hb2);(try clear hk);(try clear hi);(try clear ho0)))
        go_ret
        exact⟨_,Z6,kvu bf.out,khu HB.out⟩
       rw[if_neg c27]at H
       exact absurd H F1
    rw[if_neg c7]at H
    exact absurd H F1
   rw[if_neg c6]at H
   exact absurd H F1
def whole_amount_minus.l0:Nat→List Int→List Int→List Int→Int→Int→Int→Option (List Int)
 | 0,_,_,_,_,_,_=>none
 | k+1,x0,x1,x5,x6,x15,x16=>if x16<x15 then(if x16<(x1.length:Int) then(if 0≤x16 then(if x16<(x0.length:Int) then((bits_Sub64.f (rd x0 x16) (rd x1 x16) x6).bind fun bt363=>(if x5.length<17592186044416 then(whole_amount_minus.l0 k x0 x1 (x5++[bt363.1]) bt363.2 x15 (wrap64 (x16+1))) else(none))) else(none)) else(none)) else(if 0≤x16 then(if x16<(x0.length:Int) then((bits_Sub64.f (rd x0 x16) 0 x6).bind fun bt369=>(if x5.length<17592186044416 then(whole_amount_minus.l0 k x0 x1 (x5++[bt369.1]) bt369.2 x15 (wrap64 (x16+1))) else(none))) else(none)) else(none))) else((whole_trimmed.f k x5).bind fun t374=>(some t374))
def whole_amount_minus.f (k:Nat) (l0:List Int) (l1:List Int):Option (List Int):=if 0≤(l0.length:Int) then(if((l0.length:Int):Int).toNat≤35184372088832 then(whole_amount_minus.l0 k l0 l1 (([]:List Int)) 0 (l0.length:Int) 0) else(none)) else(none)
theorem whole_amount_minus.mono_l:∀k,(∀y0 y1 y2 y3 y4 y5,LeO (whole_amount_minus.l0 k y0 y1 y2 y3 y4 y5) (whole_amount_minus.l0 (k+1) y0 y1 y2 y3 y4 y5))
 | 0=>fun _ _ _ _ _ _ r h=>by simp[whole_amount_minus.l0]at h
 | k+1=>by
  have ih0:=whole_amount_minus.mono_l k
  intro y0 y1 y2 y3 y4 y5
  unfold whole_amount_minus.l0
  repeat' first
  | (with_reducible exact ih0 _ _ _ _ _ _)
  | (with_reducible exact whole_trimmed.mono _ _)
  | (with_reducible exact LeO.refl _)
  | (with_reducible exact LeO.none _)
  | (with_reducible refine LeO.ite ?_ ?_)
  | (with_reducible refine LeO.bind ?_ (fun _=>?_))
  | exact ih0 _ _ _ _ _ _
  | exact whole_trimmed.mono _ _
  | exact LeO.none _
  | refine LeO.ite ?_ ?_
  | refine LeO.bind ?_ (fun _=>?_)
theorem whole_amount_minus.mono:∀a0 a1 k,LeO (whole_amount_minus.f k a0 a1) (whole_amount_minus.f (k+1) a0 a1):=by
 intro a0 a1 k
 have ih0:=whole_amount_minus.mono_l k
 unfold whole_amount_minus.f
 repeat' first
   | (with_reducible exact ih0 _ _ _ _ _ _)
   | (with_reducible exact whole_trimmed.mono _ _)
   | (with_reducible exact LeO.refl _)
   | (with_reducible exact LeO.none _)
   | (with_reducible refine LeO.ite ?_ ?_)
   | (with_reducible refine LeO.bind ?_ (fun _=>?_))
   | exact ih0 _ _ _ _ _ _
   | exact whole_trimmed.mono _ _
   | exact LeO.none _
   | refine LeO.ite ?_ ?_
   | refine LeO.bind ?_ (fun _=>?_)
theorem whole_amount_minus.calls (k:Nat) (A0:Option Addr) (c0:Nat) (l0:List Int) (A1:Option Addr) (c1:Nat) (l1:List Int) (r:List Int) (w:World) (hr0:Kd.C (Kd.int .u64) w A0 l0.length l0) (hc0:l0.length≤c0) (hr1:Kd.C (Kd.int .u64) w A1 l1.length l1) (hc1:l1.length≤c1) (h:whole_amount_minus.f k l0 l1=some r) :
  Calls Tryz.prog 162 #[.slice A0 l0.length c0,.slice A1 l1.length c1] w fun e w'=>∃v0_:Value,e=.returned (v0_)∧Kd.V (Kd.int .u64) 48 w' w.heap.size (fun k_=>(w.heap.size≤k_)) v0_ r∧Below w.heap.size w w':=by
 have HR0:=Aside0.mk hr0
 have HC0:=Aside0.mk hc0
 clear hr0 hc0
 have HR1:=Aside0.mk hr1
 have HC1:=Aside0.mk hc1
 clear hr1 hc1
 have HB:=Aside0.mk (Below.refl w.heap.size w)
 have H:(if 0≤(l0.length:Int) then(if((l0.length:Int):Int).toNat≤35184372088832 then(whole_amount_minus.l0 k l0 l1 (([]:List Int)) 0 (l0.length:Int) 0) else(none)) else(none))=some r:=h
 clear h
 by_cases c3:0≤(l0.length:Int)
 ·rw [if_pos c3]at H
  have aU:=eq_true c3
  have aV:decide (0≤(l0.length:Int))=true:=decide_eq_true c3
  clear c3
  by_cases c4:((l0.length:Int):Int).toNat≤35184372088832
  ·rw [if_pos c4]at H
   have aW:=eq_true c4
   have aX:decide (((l0.length:Int):Int).toNat≤35184372088832)=true:=decide_eq_true c4
   clear c4
   obtain⟨ax,ad⟩:∃y_:List Int,y_=(([]:List Int)):=⟨_,rfl⟩
   replace H:(whole_amount_minus.l0 k l0 l1 ax 0 (l0.length:Int) 0)=some r:=by first|(rw[ad];with_reducible exact H)|(have H2_:=(Option.bind_some _ _).symm.trans H;rw[ad];with_reducible exact H2_)|(have H2_:=(Option.bind_some _ _).symm.trans H;with_reducible exact H2_)|with_reducible exact H|(rw[ad];exact H)|exact H
   have aw:=Aside0.mk ad
   clear ad
   have H':=Aside0.mk H
   clear H
   go_enter Tryz.func162,Tryz.ntmps162
   go_wp2_with (first|(refine gd 13 rfl ?_;refine Kd.R_make0 (Kd.int .u64) _ 48 rfl (N:=13) rfl 25 _ _ rfl (l0.length:Int) rfl rfl Tryz.underlying25 (.int .u64 0) 8 info48 rfl X0 Y0 0 (ok:=fun _=>True) (okp:=fun _=>True) rfl (fun _ hk=>hk) trivial (of_decide_eq_true ‹_›) (Nat.le_trans (Nat.mul_le_mul_right _ (of_decide_eq_true ‹_›:(l0.length:Int).toNat≤35184372088832)) Y0) (Below.refl _ _) (Nat.le_refl _) ?_;intro bl w5 ho6 hb hg_ hnew_;clear hg_ hnew_;(first|rw[←aw.out]at ho6|(simp only[Int.reduceToNat]at ho6;rw[←aw.out]at ho6));have aI:=Aside0.mk (Kd.R_lower (Kd.R_newM (M:=fun k_=>(w.heap.size≤k_)) ho6 (below_size (khu HB.out)) (fun k_ h_=>h_)) (below_size (khu HB.out)));replace HB:=kbs HB hb;clear hb ho6))
   go_loopg [5,6,16] k (fun kq v5 v6 v16 w'=>∃(ab:List Int) (al:Int) (aa:Int),v6=.int .u64 al∧v16=.int .i64 aa∧Aside0 (whole_amount_minus.l0 kq l0 l1 ab al (l0.length:Int) aa=some r)∧Aside0 (kq≤k)∧Aside0 (Kd.R (Kd.int .u64) 48 w' w.heap.size (fun k_=>(w.heap.size≤k_)) v5 ab)∧Aside0 (Below w.heap.size w w'))
   case atStart=>exact⟨(ax),(0),(0),F0,F0,H',⟨Nat.le_refl _⟩,⟨by(with_reducible repeat (first|apply Kd.R_alloc|apply Kd.R_drewN|apply Kd.R_drew));exact Kd.R_mono aI.out (fun _ hk=>hk.1)⟩,⟨khu HB.out⟩⟩
   case round=>
    clear H'
    try clear c1
    try clear p2
    try clear c3
    try clear aU
    try clear aV
    try clear c4
    try clear aW
    try clear aX
    obtain⟨ab,al,aa,rfl,rfl,HA,HK1,ac,HB⟩:=hrel
    cases gk with
    | zero=>exact absurd HA.out (by simp[whole_amount_minus.l0])
    | succ k1=>
     have H:=HA.out
     clear HA
     simp only[whole_amount_minus.l0]at H
     by_cases c7:aa<(l0.length:Int)
     ·rw [if_pos c7]at H
      have aY:decide (aa<(l0.length:Int))=true:=decide_eq_true c7
      clear c7
      by_cases c8:aa<(l1.length:Int)
      ·rw [if_pos c8]at H
       have aZ:decide (aa<(l1.length:Int))=true:=decide_eq_true c8
       clear c8
       by_cases c9:0≤aa
       ·rw[if_pos c9]at H
        have bn:decide (0≤aa)=true:=decide_eq_true c9
        clear c9
        by_cases c10:aa<(l0.length:Int)
        ·rw[if_pos c10]at H
         have bf:decide (aa<(l0.length:Int))=true:=decide_eq_true c10
         clear c10
         replace H:=Option.bind_eq_some_iff.mp H
         obtain⟨⟨aj,am⟩,ay,H⟩:=H
         replace H:(if ab.length<17592186044416 then(whole_amount_minus.l0 k1 l0 l1 (ab++[aj]) am (l0.length:Int) (wrap64 (aa+1))) else(none))=some r:=H
         have A11:=Aside0.mk ay
         clear ay
         by_cases c12:ab.length<17592186044416
         ·rw[if_pos c12]at H
          have aJ:=Aside0.mk c12
          clear c12
          obtain⟨az,ae⟩:∃y_:List Int,y_=(ab++[aj]):=⟨_,rfl⟩
          replace H:(whole_amount_minus.l0 k1 l0 l1 az am (l0.length:Int) (wrap64 (aa+1)))=some r:=by first|(rw[ae];with_reducible exact H)|(have H2_:=(Option.bind_some _ _).symm.trans H;rw[ae];with_reducible exact H2_)|(have H2_:=(Option.bind_some _ _).symm.trans H;with_reducible exact H2_)|with_reducible exact H|(rw[ae];exact H)|exact H
          have aK:=Aside0.mk ae
          clear ae
          have H':=Aside0.mk H
          clear H
          have an:0≤(aa:Int):=of_decide_eq_true ‹_›
          have ao:aa<(l1.length:Int):=of_decide_eq_true ‹_›
          obtain⟨bg,bb,ag⟩:=Kd.at_int HR1.out aa an ao
          cases bb
          replace ag:=(HB.out.cell (World.block_lt_of_cell? w _ ag)).trans ag
          replace an:=eq_true an
          replace ao:=eq_true ao
          have ap:0≤(aa:Int):=of_decide_eq_true ‹_›
          have aq:aa<(l0.length:Int):=of_decide_eq_true ‹_›
          obtain⟨bh,bc,ah⟩:=Kd.at_int HR0.out aa ap aq
          cases bc
          replace ah:=(HB.out.cell (World.block_lt_of_cell? w _ ah)).trans ah
          replace ap:=eq_true ap
          replace aq:=eq_true aq
          have bo:=bits_Sub64.run A11.out
          go_wp2_with (first|((with_reducible refine gate_builtin (b:=.append) (xs:=#[.tmp 37,.tmp 39]) rfl ?_);at_builtin;refine Kd.R_append (Kd.int .u64) (w0:=w) w.heap.size rfl (.tmp 37) (.tmp 39) 25 48 (.int .u64 0) 8 rfl Tryz.underlying25 info48 rfl X0 Y0 u5 ab aj [.int .u64 aj] (fun k_=>(w.heap.size≤k_)) (fun _=>False) rfl rfl ?aP (fun _ hk=>hk.elim) ?aF ?aO ?aB ?aS ?aL ?_;(case aP=>exact rfl);(case aB=>exact(khu HB.out));(case aF=>exact(fun k_ hk=>(Nat.le_trans (below_size (khu HB.out)) hk)));(case aO=>exact(kru ac.out));(case aS=>exact(below_size (khu HB.out)));(case aL=>have:=aJ.out;omega);intro bp w14 ho hb hg hat;rw[←aK.out]at ho;replace HB:=Aside0.mk (hb);have aM:=Aside0.mk (ho);clear ac;clear ho hb hg hat))
          go_roundg k1
          case measure=>have:=HK1.out;omega
          case rel=>exact⟨(az),(am),(wrap64 (aa+1)),F0,F0,H',⟨V3⟩,⟨kru aM.out⟩,⟨khu HB.out⟩⟩
         rw[if_neg c12]at H
         exact absurd H F1
        rw[if_neg c10]at H
        exact absurd H F1
       rw[if_neg c9]at H
       exact absurd H F1
      rw[if_neg c8]at H
      have aZ:decide (aa<(l1.length:Int))=false:=decide_eq_false c8
      clear c8
      by_cases c15:0≤aa
      ·rw[if_pos c15]at H
       have bi:decide (0≤aa)=true:=decide_eq_true c15
       clear c15
       by_cases c16:aa<(l0.length:Int)
       ·rw[if_pos c16]at H
        have bj:decide (aa<(l0.length:Int))=true:=decide_eq_true c16
        clear c16
        replace H:=Option.bind_eq_some_iff.mp H
        obtain⟨⟨ak,ar⟩,aA,H⟩:=H
        replace H:(if ab.length<17592186044416 then(whole_amount_minus.l0 k1 l0 l1 (ab++[ak]) ar (l0.length:Int) (wrap64 (aa+1))) else(none))=some r:=H
        have A17:=Aside0.mk aA
        clear aA
        by_cases c18:ab.length<17592186044416
        ·rw[if_pos c18]at H
         have aN:=Aside0.mk c18
         clear c18
         obtain⟨aC,af⟩:∃y_:List Int,y_=(ab++[ak]):=⟨_,rfl⟩
         replace H:(whole_amount_minus.l0 k1 l0 l1 aC ar (l0.length:Int) (wrap64 (aa+1)))=some r:=by first|(rw[af];with_reducible exact H)|(have H2_:=(Option.bind_some _ _).symm.trans H;rw[af];with_reducible exact H2_)|(have H2_:=(Option.bind_some _ _).symm.trans H;with_reducible exact H2_)|with_reducible exact H|(rw[af];exact H)|exact H
         have aQ:=Aside0.mk af
         clear af
         have H':=Aside0.mk H
         clear H
         have au:0≤(aa:Int):=of_decide_eq_true ‹_›
         have av:aa<(l0.length:Int):=of_decide_eq_true ‹_›
         obtain⟨bk,bd,ai⟩:=Kd.at_int HR0.out aa au av
         cases bd
         replace ai:=(HB.out.cell (World.block_lt_of_cell? w _ ai)).trans ai
         replace au:=eq_true au
         replace av:=eq_true av
         have bq:=bits_Sub64.run A17.out
         go_wp2_with (first|((with_reducible refine gate_builtin (b:=.append) (xs:=#[.tmp 37,.tmp 39]) rfl ?_);at_builtin;refine Kd.R_append (Kd.int .u64) (w0:=w) w.heap.size rfl (.tmp 37) (.tmp 39) 25 48 (.int .u64 0) 8 rfl Tryz.underlying25 info48 rfl X0 Y0 u5 ab ak [.int .u64 ak] (fun k_=>(w.heap.size≤k_)) (fun _=>False) rfl rfl ?aP (fun _ hk=>hk.elim) ?aF ?aO ?aB ?aS ?aL ?_;(case aP=>exact rfl);(case aB=>exact(khu HB.out));(case aF=>exact(fun k_ hk=>(Nat.le_trans (below_size (khu HB.out)) hk)));(case aO=>exact(kru ac.out));(case aS=>exact(below_size (khu HB.out)));(case aL=>have:=aN.out;omega);intro br w20 ho hb hg hat;rw[←aQ.out]at ho;replace HB:=Aside0.mk (hb);have aR:=Aside0.mk (ho);clear ac;clear ho hb hg hat))
         go_roundg k1
         case measure=>have:=HK1.out;omega
         case rel=>exact⟨(aC),(ar),(wrap64 (aa+1)),F0,F0,H',⟨V3⟩,⟨kru aR.out⟩,⟨khu HB.out⟩⟩
        rw[if_neg c18]at H
        exact absurd H F1
       rw[if_neg c16]at H
       exact absurd H F1
      rw[if_neg c15]at H
      exact absurd H F1
     rw[if_neg c7]at H
     have aY:decide (aa<(l0.length:Int))=false:=decide_eq_false c7
     clear c7
     replace H:=Option.bind_eq_some_iff.mp H
     obtain⟨aD,aE,H⟩:=H
     replace H:(some aD)=some r:=H
     have A21:=Aside0.mk aE
     clear aE
     obtain rfl:=Option.some.inj H
     obtain⟨aG,aH,be⟩:=Kd.R_slice ac.out
     subst be
     go_wp2_with (first|((with_reducible refine gate_callee (f:=93) rfl ?_);refine kgl (some 44) rfl rfl Tryz.func93 #[.slice aG ab.length aH] rfl ?_;(with_reducible refine(whole_trimmed.calls k1 (fun k_=>some k_=(.slice aG ab.length aH:Value).ownBlock) _ _ ab aD _ ?side1 A21.out).mono ?_);(case side1=>exact Kd.R_V (Kd.R_tight rfl (ac.out)));rintro e w23 ⟨bu,rfl,ho0,hb⟩;refine⟨_,rfl,?_⟩;have aT:=Aside0.mk (Kd.V_lower (Kd.V_mono (ok':=fun k_=>(w.heap.size≤k_)) ho0 (fun k_ hk_=>Or.elim hk_ (fun hs_=>((ac.out).1 k_ hs_.symm)) (fun hn_=>(Nat.le_trans (below_size (khu HB.out)) hn_)))) (below_size (khu HB.out)));replace ac:=krb ac hb;replace HB:=kbs HB hb;(try clear hb);(try clear hb2);(try clear hk);(try clear hi);(try clear ho0)))
     go_ret
     exact⟨_,Z1,kvu aT.out,khu HB.out⟩
  rw[if_neg c4]at H
  exact absurd H F1
 rw[if_neg c3]at H
 exact absurd H F1
def whole_number_plus.f (k:Nat) (l0_0:List Int) (a0_1:Bool) (l1_0:List Int) (a1_1:Bool):Option (List Int×Bool):=if(a0_1==a1_1)=true then((whole_amount_plus.f k l0_0 l1_0).bind fun t380=>((whole_signed.f t380 a0_1).bind fun bt383=>(some (bt383.1,bt383.2)))) else((whole_amount_cmp.f k l0_0 l1_0).bind fun t387=>(if t387≥0 then((whole_amount_minus.f k l0_0 l1_0).bind fun t388=>((whole_signed.f t388 a0_1).bind fun bt391=>(some (bt391.1,bt391.2)))) else((whole_amount_minus.f k l1_0 l0_0).bind fun t395=>((whole_signed.f t395 a1_1).bind fun bt398=>(some (bt398.1,bt398.2))))))
theorem whole_number_plus.mono:∀a0 a1 a2 a3 k,LeO (whole_number_plus.f k a0 a1 a2 a3) (whole_number_plus.f (k+1) a0 a1 a2 a3):=by
 intro a0 a1 a2 a3 k
 unfold whole_number_plus.f
 repeat' first
   | (with_reducible exact whole_amount_cmp.mono _ _ _)
   | (with_reducible exact whole_amount_minus.mono _ _ _)
   | (with_reducible exact whole_amount_plus.mono _ _ _)
   | (with_reducible exact LeO.refl _)
   | (with_reducible exact LeO.none _)
   | (with_reducible refine LeO.ite ?_ ?_)
   | (with_reducible refine LeO.bind ?_ (fun _=>?_))
   | exact whole_amount_cmp.mono _ _ _
   | exact whole_amount_minus.mono _ _ _
   | exact whole_amount_plus.mono _ _ _
   | exact LeO.none _
   | refine LeO.ite ?_ ?_
   | refine LeO.bind ?_ (fun _=>?_)
def whole_number_plus.T2:Bool×List (List Nat×List Nat):=(true,[([],[]),([0],[0]),([],[]),([2],[2]),([1,3],[1,3]),([],[]),([5],[5]),([4,6,4],[4,6]),([7,7,0,1,2,3,4,5,6,7],[7])])
def whole_number_plus.B2:List Nat:=[0,1,0,4,15,0,32,127,255]
theorem whole_number_plus.tab2:rtab .any (opsOf Tryz.f143 2)=whole_number_plus.T2:=by kernel_rfl
theorem whole_number_plus.bits2:waitsOk whole_number_plus.T2.2 whole_number_plus.B2=true:=by kernel_rfl
def whole_number_plus.T4:Bool×List (List Nat×List Nat):=(true,[([],[]),([0],[0]),([],[]),([2],[2]),([1,3],[1,3]),([],[]),([5],[5]),([4,6,4],[4,6]),([7,7,0,1,2,3,4,5,6,7],[7])])
def whole_number_plus.B4:List Nat:=[0,1,0,4,15,0,32,127,255]
theorem whole_number_plus.tab4:rtab .any (opsOf Tryz.f143 4)=whole_number_plus.T4:=by kernel_rfl
theorem whole_number_plus.bits4:waitsOk whole_number_plus.T4.2 whole_number_plus.B4=true:=by kernel_rfl
def whole_number_plus.T5:Bool×List (List Nat×List Nat):=(true,[([],[]),([0],[0]),([],[]),([2],[2]),([1,3],[1,3]),([],[]),([5],[5]),([4,6,4],[4,6]),([7,7,0,1,2,3,4,5,6,7],[7])])
def whole_number_plus.B5:List Nat:=[0,1,0,4,15,0,32,127,255]
theorem whole_number_plus.tab5:rtab .any (opsOf Tryz.f143 5)=whole_number_plus.T5:=by kernel_rfl
theorem whole_number_plus.bits5:waitsOk whole_number_plus.T5.2 whole_number_plus.B5=true:=by kernel_rfl
theorem whole_number_plus.calls (k:Nat) (P0_0_:Nat→Prop) (ad:Option Addr) (ae:Nat) (aa:List Int) (ac:Bool) (P1_0_:Nat→Prop) (af:Option Addr) (ag:Nat) (ab:List Int) (ah:Bool) (r1:List Int) (r2:Bool) (w:World) (ak:Kd.V (Kd.int .u64) 48 w w.heap.size (fun k_=>P0_0_ k_) (.slice ad aa.length ae) aa) (al:Kd.V (Kd.int .u64) 48 w w.heap.size (fun k_=>P1_0_ k_) (.slice af ab.length ag) ab) (h:whole_number_plus.f k aa ac ab ah=some (r1,r2)) :
  Calls Tryz.prog 143 #[.agg #[.slice ad aa.length ae,.bool ac],.agg #[.slice af ab.length ag,.bool ah]] w fun e w'=>∃v0_:Value,e=.returned (.agg #[v0_,.bool r2])∧Kd.V (Kd.int .u64) 48 w' w.heap.size (fun k_=>((P0_0_ k_∨P1_0_ k_)∨w.heap.size≤k_)) v0_ r1∧Below w.heap.size w w':=by
 have aq:=Tryz.underlying90
 have K:=Kp.refl w
 replace K:=K.parV (Kd.V_mono (ok':=fun k=>P0_0_ k) ak (fun _ h=>h))
 clear ak
 replace K:=K.parV (Kd.V_mono (ok':=fun k=>P1_0_ k) al (fun _ h=>h))
 clear al
 try simp only[klv]at K
 rw[whole_number_plus.f]at h
 by_cases c_0:(ac==ah)=true
 ·rw[if_pos c_0]at h
  have ao:decide (ac=ah)=true:=by simpa using c_0
  go_enter Tryz.func143,Tryz.ntmps143
  go_wp2_with (first|(refine gd 2 rfl ?_;refine kbk 2 #[.slice ad aa.length ae,.bool ac] 90 K.u ?_;clear K;intro g1 W2 K)|(refine gd 3 rfl ?_;refine kbk 3 #[.slice af ab.length ag,.bool ah] 90 K.u ?_;clear K;intro g3 W4 K)|(refine gd 4 rfl ?_;refine kbk 4 #[.slice none 0 0,.bool false] 90 K.u ?_;clear K;intro g5 W6 K;obtain⟨ua0,ub0⟩:=K.cell2 0 rfl;obtain⟨ua1,ub1⟩:=K.cell2 1 rfl))
  clear ua0 ub0 ua1 ub1
  replace h:=bindA h
  obtain⟨x7,A8,h⟩:=h
  replace h:=bindA h
  obtain⟨⟨x9,z10⟩,A11,h⟩:=h
  dsimp only at h
  obtain⟨Bs,Vs,Os,hBs,hVs,hOs,K⟩:=K.abs
  have HS:Aside0 (∀l m o W,Kp w (Bs++l) m o W→W.cell? ⟨g1,0,none⟩=some (.slice ad aa.length ae)∧W.cell? ⟨g1,1,none⟩=some (.bool ac)∧W.cell? ⟨g3,0,none⟩=some (.slice af ab.length ag)∧W.cell? ⟨g3,1,none⟩=some (.bool ah)):=⟨fun l m o W K=>by rw[hBs.out]at K;exact⟨K.cell 0 rfl 0 rfl,K.cell 0 rfl 1 rfl,K.cell 1 rfl 0 rfl,K.cell 1 rfl 1 rfl⟩⟩
  refine kpstart (n:=9) (ds:=[]) (S:=fun W=>W.cell? ⟨g1,0,none⟩=some (.slice ad aa.length ae)∧W.cell? ⟨g1,1,none⟩=some (.bool ac)∧W.cell? ⟨g3,0,none⟩=some (.slice af ab.length ag)∧W.cell? ⟨g3,1,none⟩=some (.bool ah)) (bm_ 9 0) Z0 rfl rfl K (HS.out [] _ _) (fun W14 K hH=>?_)
  refine with_tabW whole_number_plus.tab2 whole_number_plus.bits2 (fun HT_ HW_=>?_)
  refine pu_ 0 10 ?_ (bm_ 9 1) rfl rfl (any_of HT_.out Z0) (fun _ _ _ h=>h) B0 ?_ ?_ ?_ ?_
  rotate_left
  ·intro w'
   go_simp
   with_reducible rfl
  rotate_left
  ·simp only[Act.put,kss,i64_w,i32_w]
   rfl
  refine tk_ 1 11 ?_ (bm_ 9 3) rfl rfl (take_ofW HT_.out HW_.out Z0) (fun _ _ _ h=>h) B0 ?_ hH ?_ ?_ ?_
  rotate_left
  ·rintro w' ⟨s0,s1,s2,s3⟩
   go_simp
   with_reducible rfl
  rotate_left
  ·simp only[Act.put,kss,i64_w,i32_w]
   rfl
  refine pu_ 2 12 ?_ (bm_ 9 7) rfl rfl (any_of HT_.out Z0) (fun _ _ _ h=>h) B0 ?_ ?_ ?_ ?_
  rotate_left
  ·intro w'
   go_simp
   with_reducible rfl
  rotate_left
  ·simp only[Act.put,kss,i64_w,i32_w]
   rfl
  refine tk_ 3 13 ?_ (bm_ 9 15) rfl rfl (take_ofW HT_.out HW_.out Z0) (fun _ _ _ h=>h) B0 ?_ hH ?_ ?_ ?_
  rotate_left
  ·rintro w' ⟨s0,s1,s2,s3⟩
   go_simp
   with_reducible rfl
  rotate_left
  ·simp only[Act.put,kss,i64_w,i32_w]
   rfl
  refine pu_ 5 15 ?_ (bm_ 9 47) rfl rfl (any_of HT_.out Z0) (fun _ _ _ h=>h) B0 ?_ ?_ ?_ ?_
  rotate_left
  ·intro w'
   go_simp
   with_reducible rfl
  rotate_left
  ·simp only[Act.put,kss,i64_w,i32_w]
   rfl
  refine tk_ 6 16 ?_ (bm_ 9 111) rfl rfl (take_ofW HT_.out HW_.out Z0) (fun _ _ _ h=>h) B0 ?_ hH ?_ ?_ ?_
  rotate_left
  ·rintro w' ⟨s0,s1,s2,s3⟩
   go_simp
   with_reducible rfl
  rotate_left
  ·simp only[Act.put,kss,i64_w,i32_w]
   rfl
  refine one_ (i:=4) (N:=some 14) (bm_ 9 127) rfl rfl (one_of HT_.out Z0) X0 (fun Kc hK=>?_)
  refine kgo Tryz.func161 #[.slice ad aa.length ae,.slice af ab.length ag] B0 rfl rfl ?_
  refine(whole_amount_plus.calls _ _ _ _ aa _ _ _ ab x7 _ (K.V 0 (hv hVs rfl)) (K.V 1 (hv hVs rfl)) A8.out).mono ?_
  rintro e W' ⟨v12,rfl,am,hb⟩
  replace K:=K.addI 0 (fun k=>(fun k=>P0_0_ k) k∨(fun k=>P1_0_ k) k) hb am (fun _ h=>h.elim (fun h=>(h).l) fun h=>(h).r)
  clear hb am
  refine⟨_,rfl,hK.out _ _ (HS.out _ _ _ _ K) fun hH=>?_⟩
  clear hK Kc
  refine norm_ (a':=?_) ?_ ?_
  rotate_left
  ·show Act.put _ (some 14) _=_
   simp only[Act.put,kss,i64_w,i32_w]
   rfl
  refine one_ (i:=7) (N:=some 17) (bm_ 9 255) rfl rfl (one_of HT_.out Z0) X0 (fun Kc hK=>?_)
  obtain⟨P16,c17,e18⟩:=K.slice 2 (hv hVs rfl)
  subst e18
  refine kgo Tryz.func144 #[.slice P16 x7.length c17,.bool ac] B0 rfl rfl ?_
  refine(whole_signed.calls _ _ _ x7 ac x9 z10 _ (K.V 2 (hv hVs rfl)) A11.out).mono ?_
  rintro e W' ⟨v13,rfl,an,hb⟩
  replace K:=K.addI 1 (fun k=>(fun k=>P0_0_ k) k∨(fun k=>P1_0_ k) k) hb an (fun _ h=>h)
  clear hb an
  refine⟨_,rfl,hK.out _ _ (HS.out _ _ _ _ K) fun hH=>?_⟩
  clear hK Kc
  refine norm_ (a':=?_) ?_ ?_
  rotate_left
  ·show Act.put _ (some 17) _=_
   simp only[Act.put,kss,i64_w,i32_w]
   rfl
  obtain⟨P20,c21,e22⟩:=K.slice 3 (hv hVs rfl)
  subst e22
  rw[hBs.out,hVs.out,hOs.out]at K
  simp only[kls,klv]at K
  clear hBs hVs hOs HS hH
  refine ko2 (i:=8) (bm_ 9 511) 2 (.slice P20 x9.length c21) (.bool z10) K rfl rfl rfl (one_of HT_.out Z0) X0 B0 (fun W K=>⟨K.cell 0 rfl 0 rfl,K.cell 0 rfl 1 rfl,K.cell 1 rfl 0 rfl,K.cell 1 rfl 1 rfl⟩) ?_
  clear K
  intro W23 K
  simp only[kls,klv]at K
  refine done_ (done_of HT_.out Z0) ?_
  clear HT_ HW_
  simp only[Option.some.injEq,Prod.mk.injEq]at h
  obtain⟨rfl,rfl⟩:=h
  go_wp2
  refine bodyPost_ret (results_single rfl (.cell g5 90 #[.slice P20 x9.length c21,.bool z10] (0,0) _ rfl (K.u.heap 2 rfl) Tryz.underlying90 rfl Z0 .nil)) rfl ?_
  exact⟨_,rfl,K.u.hand 3 rfl (fun k_ h=>by first|exact h|exact .inr (h.resolve_left id)|(simp only[or_false,false_or,or_self]at h ⊢;first|exact h|(rcases h with h|h<;>simp_all)|simp_all)),K.u.below⟩
 rw[if_neg c_0]at h
 replace c_0:=Bool.eq_false_iff.mpr c_0
 have ao:decide (ac=ah)=false:=by simpa using c_0
 replace h:=bindA h
 obtain⟨n7,A8,h⟩:=h
 by_cases c_1:n7≥0
 ·rw[if_pos c_1]at h
  have ap:decide (n7≥0)=true:=decide_eq_true c_1
  go_enter Tryz.func143,Tryz.ntmps143
  go_wp2_with (first|(refine gd 2 rfl ?_;refine kbk 2 #[.slice ad aa.length ae,.bool ac] 90 K.u ?_;clear K;intro g1 W2 K)|(refine gd 3 rfl ?_;refine kbk 3 #[.slice af ab.length ag,.bool ah] 90 K.u ?_;clear K;intro g3 W4 K)|(refine gd 4 rfl ?_;refine kbk 4 #[.slice none 0 0,.bool false] 90 K.u ?_;clear K;intro g5 W6 K;obtain⟨ua0,ub0⟩:=K.cell2 0 rfl;obtain⟨ua1,ub1⟩:=K.cell2 1 rfl)|(refine gd 22 rfl ?_;clear ua0 ub0 ua1 ub1;refine kgl (some 22) rfl rfl Tryz.func95 #[.slice ad aa.length ae,.slice af ab.length ag] rfl ?_;refine(whole_amount_cmp.calls _ _ _ aa _ _ ab n7 _ (K.C 0 rfl) (K.le 0 rfl) (K.C 1 rfl) (K.le 1 rfl) A8.out).mono ?_;rintro e W9 ⟨rfl,hb⟩;refine⟨_,rfl,?_⟩;replace K:=K.u.up hb.below;clear hb))
  replace h:=bindA h
  obtain⟨x10,A11,h⟩:=h
  replace h:=bindA h
  obtain⟨⟨x12,z13⟩,A14,h⟩:=h
  dsimp only at h
  obtain⟨Bs,Vs,Os,hBs,hVs,hOs,K⟩:=K.abs
  have HS:Aside0 (∀l m o W,Kp w (Bs++l) m o W→W.cell? ⟨g1,0,none⟩=some (.slice ad aa.length ae)∧W.cell? ⟨g1,1,none⟩=some (.bool ac)∧W.cell? ⟨g3,0,none⟩=some (.slice af ab.length ag)∧W.cell? ⟨g3,1,none⟩=some (.bool ah)):=⟨fun l m o W K=>by rw[hBs.out]at K;exact⟨K.cell 0 rfl 0 rfl,K.cell 0 rfl 1 rfl,K.cell 1 rfl 0 rfl,K.cell 1 rfl 1 rfl⟩⟩
  refine kpstart (n:=9) (ds:=[]) (S:=fun W=>W.cell? ⟨g1,0,none⟩=some (.slice ad aa.length ae)∧W.cell? ⟨g1,1,none⟩=some (.bool ac)∧W.cell? ⟨g3,0,none⟩=some (.slice af ab.length ag)∧W.cell? ⟨g3,1,none⟩=some (.bool ah)) (bm_ 9 0) Z0 rfl rfl K (HS.out [] _ _) (fun W17 K hH=>?_)
  refine with_tabW whole_number_plus.tab4 whole_number_plus.bits4 (fun HT_ HW_=>?_)
  refine pu_ 0 24 ?_ (bm_ 9 1) rfl rfl (any_of HT_.out Z0) (fun _ _ _ h=>h) B0 ?_ ?_ ?_ ?_
  rotate_left
  ·intro w'
   go_simp
   with_reducible rfl
  rotate_left
  ·simp only[Act.put,kss,i64_w,i32_w]
   rfl
  refine tk_ 1 25 ?_ (bm_ 9 3) rfl rfl (take_ofW HT_.out HW_.out Z0) (fun _ _ _ h=>h) B0 ?_ hH ?_ ?_ ?_
  rotate_left
  ·rintro w' ⟨s0,s1,s2,s3⟩
   go_simp
   with_reducible rfl
  rotate_left
  ·simp only[Act.put,kss,i64_w,i32_w]
   rfl
  refine pu_ 2 26 ?_ (bm_ 9 7) rfl rfl (any_of HT_.out Z0) (fun _ _ _ h=>h) B0 ?_ ?_ ?_ ?_
  rotate_left
  ·intro w'
   go_simp
   with_reducible rfl
  rotate_left
  ·simp only[Act.put,kss,i64_w,i32_w]
   rfl
  refine tk_ 3 27 ?_ (bm_ 9 15) rfl rfl (take_ofW HT_.out HW_.out Z0) (fun _ _ _ h=>h) B0 ?_ hH ?_ ?_ ?_
  rotate_left
  ·rintro w' ⟨s0,s1,s2,s3⟩
   go_simp
   with_reducible rfl
  rotate_left
  ·simp only[Act.put,kss,i64_w,i32_w]
   rfl
  refine pu_ 5 29 ?_ (bm_ 9 47) rfl rfl (any_of HT_.out Z0) (fun _ _ _ h=>h) B0 ?_ ?_ ?_ ?_
  rotate_left
  ·intro w'
   go_simp
   with_reducible rfl
  rotate_left
  ·simp only[Act.put,kss,i64_w,i32_w]
   rfl
  refine tk_ 6 30 ?_ (bm_ 9 111) rfl rfl (take_ofW HT_.out HW_.out Z0) (fun _ _ _ h=>h) B0 ?_ hH ?_ ?_ ?_
  rotate_left
  ·rintro w' ⟨s0,s1,s2,s3⟩
   go_simp
   with_reducible rfl
  rotate_left
  ·simp only[Act.put,kss,i64_w,i32_w]
   rfl
  refine one_ (i:=4) (N:=some 28) (bm_ 9 127) rfl rfl (one_of HT_.out Z0) X0 (fun Kc hK=>?_)
  refine kgo Tryz.func162 #[.slice ad aa.length ae,.slice af ab.length ag] B0 rfl rfl ?_
  refine(whole_amount_minus.calls _ _ _ aa _ _ ab x10 _ (K.C 0 (hv hVs rfl)) (K.le 0 (hv hVs rfl)) (K.C 1 (hv hVs rfl)) (K.le 1 (hv hVs rfl)) A11.out).mono ?_
  rintro e W' ⟨v15,rfl,ai,hb⟩
  replace K:=K.addFI 0 (fun _=>False) hb ai
  clear hb ai
  refine⟨_,rfl,hK.out _ _ (HS.out _ _ _ _ K) fun hH=>?_⟩
  clear hK Kc
  refine norm_ (a':=?_) ?_ ?_
  rotate_left
  ·show Act.put _ (some 28) _=_
   simp only[Act.put,kss,i64_w,i32_w]
   rfl
  refine one_ (i:=7) (N:=some 31) (bm_ 9 255) rfl rfl (one_of HT_.out Z0) X0 (fun Kc hK=>?_)
  obtain⟨P19,c20,e21⟩:=K.slice 2 (hv hVs rfl)
  subst e21
  refine kgo Tryz.func144 #[.slice P19 x10.length c20,.bool ac] B0 rfl rfl ?_
  refine(whole_signed.calls _ _ _ x10 ac x12 z13 _ (K.V 2 (hv hVs rfl)) A14.out).mono ?_
  rintro e W' ⟨v16,rfl,aj,hb⟩
  replace K:=K.addI 1 (fun _=>False) hb aj (fun _ h=>h)
  clear hb aj
  refine⟨_,rfl,hK.out _ _ (HS.out _ _ _ _ K) fun hH=>?_⟩
  clear hK Kc
  refine norm_ (a':=?_) ?_ ?_
  rotate_left
  ·show Act.put _ (some 31) _=_
   simp only[Act.put,kss,i64_w,i32_w]
   rfl
  obtain⟨P23,c24,e25⟩:=K.slice 3 (hv hVs rfl)
  subst e25
  rw[hBs.out,hVs.out,hOs.out]at K
  simp only[kls,klv]at K
  clear hBs hVs hOs HS hH
  refine ko2 (i:=8) (bm_ 9 511) 2 (.slice P23 x12.length c24) (.bool z13) K rfl rfl rfl (one_of HT_.out Z0) X0 B0 (fun W K=>⟨K.cell 0 rfl 0 rfl,K.cell 0 rfl 1 rfl,K.cell 1 rfl 0 rfl,K.cell 1 rfl 1 rfl⟩) ?_
  clear K
  intro W26 K
  simp only[kls,klv]at K
  refine done_ (done_of HT_.out Z0) ?_
  clear HT_ HW_
  simp only[Option.some.injEq,Prod.mk.injEq]at h
  obtain⟨rfl,rfl⟩:=h
  go_wp2
  refine bodyPost_ret (results_single rfl (.cell g5 90 #[.slice P23 x12.length c24,.bool z13] (0,0) _ rfl (K.u.heap 2 rfl) Tryz.underlying90 rfl Z0 .nil)) rfl ?_
  exact⟨_,rfl,K.u.hand 3 rfl (fun k_ h=>h.elim (fun h=>h.elim) .inr),K.u.below⟩
 rw[if_neg c_1]at h
 have ap:decide (n7≥0)=false:=decide_eq_false c_1
 go_enter Tryz.func143,Tryz.ntmps143
 go_wp2_with (first|(refine gd 2 rfl ?_;refine kbk 2 #[.slice ad aa.length ae,.bool ac] 90 K.u ?_;clear K;intro g1 W2 K)|(refine gd 3 rfl ?_;refine kbk 3 #[.slice af ab.length ag,.bool ah] 90 K.u ?_;clear K;intro g3 W4 K)|(refine gd 4 rfl ?_;refine kbk 4 #[.slice none 0 0,.bool false] 90 K.u ?_;clear K;intro g5 W6 K;obtain⟨ua0,ub0⟩:=K.cell2 0 rfl;obtain⟨ua1,ub1⟩:=K.cell2 1 rfl)|(refine gd 22 rfl ?_;clear ua0 ub0 ua1 ub1;refine kgl (some 22) rfl rfl Tryz.func95 #[.slice ad aa.length ae,.slice af ab.length ag] rfl ?_;refine(whole_amount_cmp.calls _ _ _ aa _ _ ab n7 _ (K.C 0 rfl) (K.le 0 rfl) (K.C 1 rfl) (K.le 1 rfl) A8.out).mono ?_;rintro e W9 ⟨rfl,hb⟩;refine⟨_,rfl,?_⟩;replace K:=K.u.up hb.below;clear hb))
 replace h:=bindA h
 obtain⟨x10,A11,h⟩:=h
 replace h:=bindA h
 obtain⟨⟨x12,z13⟩,A14,h⟩:=h
 dsimp only at h
 obtain⟨Bs,Vs,Os,hBs,hVs,hOs,K⟩:=K.abs
 have HS:Aside0 (∀l m o W,Kp w (Bs++l) m o W→W.cell? ⟨g3,0,none⟩=some (.slice af ab.length ag)∧W.cell? ⟨g3,1,none⟩=some (.bool ah)∧W.cell? ⟨g1,0,none⟩=some (.slice ad aa.length ae)∧W.cell? ⟨g1,1,none⟩=some (.bool ac)):=⟨fun l m o W K=>by rw[hBs.out]at K;exact⟨K.cell 1 rfl 0 rfl,K.cell 1 rfl 1 rfl,K.cell 0 rfl 0 rfl,K.cell 0 rfl 1 rfl⟩⟩
 refine kpstart (n:=9) (ds:=[]) (S:=fun W=>W.cell? ⟨g3,0,none⟩=some (.slice af ab.length ag)∧W.cell? ⟨g3,1,none⟩=some (.bool ah)∧W.cell? ⟨g1,0,none⟩=some (.slice ad aa.length ae)∧W.cell? ⟨g1,1,none⟩=some (.bool ac)) (bm_ 9 0) Z0 rfl rfl K (HS.out [] _ _) (fun W17 K hH=>?_)
 refine with_tabW whole_number_plus.tab5 whole_number_plus.bits5 (fun HT_ HW_=>?_)
 refine pu_ 0 32 ?_ (bm_ 9 1) rfl rfl (any_of HT_.out Z0) (fun _ _ _ h=>h) B0 ?_ ?_ ?_ ?_
 rotate_left
 ·intro w'
  go_simp
  with_reducible rfl
 rotate_left
 ·simp only[Act.put,kss,i64_w,i32_w]
  rfl
 refine tk_ 1 33 ?_ (bm_ 9 3) rfl rfl (take_ofW HT_.out HW_.out Z0) (fun _ _ _ h=>h) B0 ?_ hH ?_ ?_ ?_
 rotate_left
 ·rintro w' ⟨s0,s1,s2,s3⟩
  go_simp
  with_reducible rfl
 rotate_left
 ·simp only[Act.put,kss,i64_w,i32_w]
  rfl
 refine pu_ 2 34 ?_ (bm_ 9 7) rfl rfl (any_of HT_.out Z0) (fun _ _ _ h=>h) B0 ?_ ?_ ?_ ?_
 rotate_left
 ·intro w'
  go_simp
  with_reducible rfl
 rotate_left
 ·simp only[Act.put,kss,i64_w,i32_w]
  rfl
 refine tk_ 3 35 ?_ (bm_ 9 15) rfl rfl (take_ofW HT_.out HW_.out Z0) (fun _ _ _ h=>h) B0 ?_ hH ?_ ?_ ?_
 rotate_left
 ·rintro w' ⟨s0,s1,s2,s3⟩
  go_simp
  with_reducible rfl
 rotate_left
 ·simp only[Act.put,kss,i64_w,i32_w]
  rfl
 refine pu_ 5 37 ?_ (bm_ 9 47) rfl rfl (any_of HT_.out Z0) (fun _ _ _ h=>h) B0 ?_ ?_ ?_ ?_
 rotate_left
 ·intro w'
  go_simp
  with_reducible rfl
 rotate_left
 ·simp only[Act.put,kss,i64_w,i32_w]
  rfl
 refine tk_ 6 38 ?_ (bm_ 9 111) rfl rfl (take_ofW HT_.out HW_.out Z0) (fun _ _ _ h=>h) B0 ?_ hH ?_ ?_ ?_
 rotate_left
 ·rintro w' ⟨s0,s1,s2,s3⟩
  go_simp
  with_reducible rfl
 rotate_left
 ·simp only[Act.put,kss,i64_w,i32_w]
  rfl
 refine one_ (i:=4) (N:=some 36) (bm_ 9 127) rfl rfl (one_of HT_.out Z0) X0 (fun Kc hK=>?_)
 refine kgo Tryz.func162 #[.slice af ab.length ag,.slice ad aa.length ae] B0 rfl rfl ?_
 refine(whole_amount_minus.calls _ _ _ ab _ _ aa x10 _ (K.C 1 (hv hVs rfl)) (K.le 1 (hv hVs rfl)) (K.C 0 (hv hVs rfl)) (K.le 0 (hv hVs rfl)) A11.out).mono ?_
 rintro e W' ⟨v15,rfl,ai,hb⟩
 replace K:=K.addFI 0 (fun _=>False) hb ai
 clear hb ai
 refine⟨_,rfl,hK.out _ _ (HS.out _ _ _ _ K) fun hH=>?_⟩
 clear hK Kc
 refine norm_ (a':=?_) ?_ ?_
 rotate_left
 ·show Act.put _ (some 36) _=_
  simp only[Act.put,kss,i64_w,i32_w]
  rfl
 refine one_ (i:=7) (N:=some 39) (bm_ 9 255) rfl rfl (one_of HT_.out Z0) X0 (fun Kc hK=>?_)
 obtain⟨P19,c20,e21⟩:=K.slice 2 (hv hVs rfl)
 subst e21
 refine kgo Tryz.func144 #[.slice P19 x10.length c20,.bool ah] B0 rfl rfl ?_
 refine(whole_signed.calls _ _ _ x10 ah x12 z13 _ (K.V 2 (hv hVs rfl)) A14.out).mono ?_
 rintro e W' ⟨v16,rfl,aj,hb⟩
 replace K:=K.addI 1 (fun _=>False) hb aj (fun _ h=>h)
 clear hb aj
 refine⟨_,rfl,hK.out _ _ (HS.out _ _ _ _ K) fun hH=>?_⟩
 clear hK Kc
 refine norm_ (a':=?_) ?_ ?_
 rotate_left
 ·show Act.put _ (some 39) _=_
  simp only[Act.put,kss,i64_w,i32_w]
  rfl
 obtain⟨P23,c24,e25⟩:=K.slice 3 (hv hVs rfl)
 subst e25
 rw[hBs.out,hVs.out,hOs.out]at K
 simp only[kls,klv]at K
 clear hBs hVs hOs HS hH
 refine ko2 (i:=8) (bm_ 9 511) 2 (.slice P23 x12.length c24) (.bool z13) K rfl rfl rfl (one_of HT_.out Z0) X0 B0 (fun W K=>⟨K.cell 1 rfl 0 rfl,K.cell 1 rfl 1 rfl,K.cell 0 rfl 0 rfl,K.cell 0 rfl 1 rfl⟩) ?_
 clear K
 intro W26 K
 simp only[kls,klv]at K
 refine done_ (done_of HT_.out Z0) ?_
 clear HT_ HW_
 simp only[Option.some.injEq,Prod.mk.injEq]at h
 obtain⟨rfl,rfl⟩:=h
 go_wp2
 refine bodyPost_ret (results_single rfl (.cell g5 90 #[.slice P23 x12.length c24,.bool z13] (0,0) _ rfl (K.u.heap 2 rfl) Tryz.underlying90 rfl Z0 .nil)) rfl ?_
 exact⟨_,rfl,K.u.hand 3 rfl (fun k_ h=>h.elim (fun h=>h.elim) .inr),K.u.below⟩
def whole_number_opposite.f (l0_0:List Int) (a0_1:Bool):Option (List Int×Bool):=(whole_signed.f l0_0 (!a0_1)).bind fun bt404=>(some (bt404.1,bt404.2))
theorem whole_number_opposite.calls (P0_0_:Nat→Prop) (ac:Option Addr) (ad:Nat) (aa:List Int) (ab:Bool) (r1:List Int) (r2:Bool) (w:World) (ae:Kd.V (Kd.int .u64) 48 w w.heap.size (fun k_=>P0_0_ k_) (.slice ac aa.length ad) aa) (h:whole_number_opposite.f aa ab=some (r1,r2)) :
  Calls Tryz.prog 158 #[.agg #[.slice ac aa.length ad,.bool ab]] w fun e w'=>∃v0_:Value,e=.returned (.agg #[v0_,.bool r2])∧Kd.V (Kd.int .u64) 48 w' w.heap.size (fun k_=>(P0_0_ k_∨w.heap.size≤k_)) v0_ r1∧Below w.heap.size w w':=by
 have af:=Tryz.underlying90
 have K:=Kp.refl w
 replace K:=K.parV (Kd.V_mono (ok':=fun k=>P0_0_ k) ae (fun _ h=>h))
 clear ae
 try simp only[klv]at K
 rw[whole_number_opposite.f]at h
 replace h:=bindA h
 obtain⟨⟨x5,z6⟩,A7,h⟩:=h
 dsimp only at h
 simp only[Option.some.injEq,Prod.mk.injEq]at h
 obtain⟨rfl,rfl⟩:=h
 go_enter Tryz.func158,Tryz.ntmps158
 go_wp2_with (first|(refine gd 1 rfl ?_;refine kbk 1 #[.slice ac aa.length ad,.bool ab] 90 K.u ?_;clear K;intro g1 W2 K)|(refine gd 2 rfl ?_;refine kbk 2 #[.slice none 0 0,.bool false] 90 K.u ?_;clear K;intro g3 W4 K;obtain⟨ua0,ub0⟩:=K.cell2 0 rfl)|(refine gd 8 rfl ?_;clear ua0 ub0;refine kgl (some 8) rfl rfl Tryz.func144 #[.slice ac aa.length ad,.bool !ab] rfl ?_;refine(whole_signed.calls _ _ _ aa (!ab) x5 z6 _ (K.V 0 rfl) A7.out).mono ?_;rintro e W10 ⟨v8,rfl,ho9,hb⟩;refine⟨_,rfl,?_⟩;replace K:=K.u.add (fun k=>P0_0_ k) hb ho9 (fun _ h=>h);clear hb ho9;obtain⟨P11,c12,e13⟩:=K.slice 1 rfl;subst e13)|(refine gs 90 2 8 rfl ?_;refine ks2 1 (.slice P11 x5.length c12) (.bool z6) K.u rfl ?_;clear K;intro W14 K;simp only[kls,klv]at K))
 refine bodyPost_ret (results_single rfl (.cell g3 90 #[.slice P11 x5.length c12,.bool z6] (0,0) _ rfl (K.u.heap 1 rfl) Tryz.underlying90 rfl Z0 .nil)) rfl ?_
 exact⟨_,rfl,K.u.hand 1 rfl (fun k_ h=>h.elim (fun h=>.inl h) .inr),K.u.below⟩
def whole_number_minus.f (k:Nat) (l0_0:List Int) (a0_1:Bool) (l1_0:List Int) (a1_1:Bool):Option (List Int×Bool):=(whole_number_opposite.f l1_0 a1_1).bind fun bt411=>((whole_number_plus.f k l0_0 a0_1 bt411.1 bt411.2).bind fun bt415=>(some (bt415.1,bt415.2)))
theorem whole_number_minus.mono:∀a0 a1 a2 a3 k,LeO (whole_number_minus.f k a0 a1 a2 a3) (whole_number_minus.f (k+1) a0 a1 a2 a3):=by
 intro a0 a1 a2 a3 k
 unfold whole_number_minus.f
 repeat' first
   | (with_reducible exact whole_number_plus.mono _ _ _ _ _)
   | (with_reducible exact LeO.refl _)
   | (with_reducible exact LeO.none _)
   | (with_reducible refine LeO.ite ?_ ?_)
   | (with_reducible refine LeO.bind ?_ (fun _=>?_))
   | exact whole_number_plus.mono _ _ _ _ _
   | exact LeO.none _
   | refine LeO.ite ?_ ?_
   | refine LeO.bind ?_ (fun _=>?_)
theorem whole_number_minus.calls (k:Nat) (P0_0_:Nat→Prop) (ae:Option Addr) (af:Nat) (aa:List Int) (ac:Bool) (P1_0_:Nat→Prop) (ag:Option Addr) (ah:Nat) (ab:List Int) (ad:Bool) (r1:List Int) (r2:Bool) (w:World) (ai:Kd.V (Kd.int .u64) 48 w w.heap.size (fun k_=>P0_0_ k_) (.slice ae aa.length af) aa) (aj:Kd.V (Kd.int .u64) 48 w w.heap.size (fun k_=>P1_0_ k_) (.slice ag ab.length ah) ab) (h:whole_number_minus.f k aa ac ab ad=some (r1,r2)) :
  Calls Tryz.prog 146 #[.agg #[.slice ae aa.length af,.bool ac],.agg #[.slice ag ab.length ah,.bool ad]] w fun e w'=>∃v0_:Value,e=.returned (.agg #[v0_,.bool r2])∧Kd.V (Kd.int .u64) 48 w' w.heap.size (fun k_=>((P0_0_ k_∨P1_0_ k_)∨w.heap.size≤k_)) v0_ r1∧Below w.heap.size w w':=by
 have am:=Tryz.underlying90
 have K:=Kp.refl w
 replace K:=K.parV (Kd.V_mono (ok':=fun k=>P0_0_ k) ai (fun _ h=>h))
 clear ai
 replace K:=K.parV (Kd.V_mono (ok':=fun k=>P1_0_ k) aj (fun _ h=>h))
 clear aj
 try simp only[klv]at K
 rw[whole_number_minus.f]at h
 go_enter Tryz.func146,Tryz.ntmps146
 go_wp2_with (first|(refine gd 2 rfl ?_;refine kbk 2 #[.slice ae aa.length af,.bool ac] 90 K.u ?_;clear K;intro g1 W2 K)|(refine gd 3 rfl ?_;refine kbk 3 #[.slice ag ab.length ah,.bool ad] 90 K.u ?_;clear K;intro g3 W4 K)|(refine gd 4 rfl ?_;refine kbk 4 #[.slice none 0 0,.bool false] 90 K.u ?_;clear K;intro g5 W6 K))
 replace h:=bindA h
 obtain⟨⟨x7,z8⟩,A9,h⟩:=h
 dsimp only at h
 replace h:=bindA h
 obtain⟨⟨x10,z11⟩,A12,h⟩:=h
 dsimp only at h
 obtain⟨Bs,Vs,Os,hBs,hVs,hOs,K⟩:=K.abs
 have HS:Aside0 (∀l m o W,Kp w (Bs++l) m o W→W.cell? ⟨g1,0,none⟩=some (.slice ae aa.length af)∧W.cell? ⟨g1,1,none⟩=some (.bool ac)∧W.cell? ⟨g3,0,none⟩=some (.slice ag ab.length ah)∧W.cell? ⟨g3,1,none⟩=some (.bool ad)):=⟨fun l m o W K=>by rw[hBs.out]at K;exact⟨K.cell 0 rfl 0 rfl,K.cell 0 rfl 1 rfl,K.cell 1 rfl 0 rfl,K.cell 1 rfl 1 rfl⟩⟩
 refine kpstart (n:=5) (ds:=[]) (S:=fun W=>W.cell? ⟨g1,0,none⟩=some (.slice ae aa.length af)∧W.cell? ⟨g1,1,none⟩=some (.bool ac)∧W.cell? ⟨g3,0,none⟩=some (.slice ag ab.length ah)∧W.cell? ⟨g3,1,none⟩=some (.bool ad)) (bm_ 5 0) Z0 rfl rfl K (HS.out [] _ _) (fun W15 K hH=>?_)
 refine tk_ 0 5 ?_ (bm_ 5 1) rfl rfl Z0 (fun _ _ _ h=>h) B0 ?_ hH ?_ ?_ ?_
 rotate_left
 ·rintro w' ⟨s0,s1,s2,s3⟩
  go_simp
  with_reducible rfl
 rotate_left
 ·simp only[Act.put,kss,i64_w,i32_w]
  rfl
 refine tk_ 1 6 ?_ (bm_ 5 3) rfl rfl Z0 (fun _ _ _ h=>h) B0 ?_ hH ?_ ?_ ?_
 rotate_left
 ·rintro w' ⟨s0,s1,s2,s3⟩
  go_simp
  with_reducible rfl
 rotate_left
 ·simp only[Act.put,kss,i64_w,i32_w]
  rfl
 refine one_ (i:=2) (N:=some 7) (bm_ 5 7) rfl rfl Z0 X0 (fun Kc hK=>?_)
 refine kgo Tryz.func158 #[.agg #[.slice ag ab.length ah,.bool ad]] B0 rfl rfl ?_
 refine(whole_number_opposite.calls _ _ _ ab ad x7 z8 _ (K.V 1 (hv hVs rfl)) A9.out).mono ?_
 rintro e W' ⟨v13,rfl,ak,hb⟩
 replace K:=K.addI 0 (fun k=>P1_0_ k) hb ak (fun _ h=>h)
 clear hb ak
 refine⟨_,rfl,hK.out _ _ (HS.out _ _ _ _ K) fun hH=>?_⟩
 clear hK Kc
 refine norm_ (a':=?_) ?_ ?_
 rotate_left
 ·show Act.put _ (some 7) _=_
  simp only[Act.put,kss,i64_w,i32_w]
  rfl
 refine one_ (i:=3) (N:=some 8) (bm_ 5 15) rfl rfl Z0 X0 (fun Kc hK=>?_)
 obtain⟨P17,c18,e19⟩:=K.slice 2 (hv hVs rfl)
 subst e19
 refine kgo Tryz.func143 #[.agg #[.slice ae aa.length af,.bool ac],.agg #[.slice P17 x7.length c18,.bool z8]] B0 rfl rfl ?_
 refine(whole_number_plus.calls _ _ _ _ aa ac _ _ _ x7 z8 x10 z11 _ (K.V 0 (hv hVs rfl)) (K.V 2 (hv hVs rfl)) A12.out).mono ?_
 rintro e W' ⟨v14,rfl,al,hb⟩
 replace K:=K.addI 1 (fun k=>(fun k=>P0_0_ k) k∨(fun k=>P1_0_ k) k) hb al (fun _ h=>h.elim (fun h=>(h).l) fun h=>(h).r)
 clear hb al
 refine⟨_,rfl,hK.out _ _ (HS.out _ _ _ _ K) fun hH=>?_⟩
 clear hK Kc
 refine norm_ (a':=?_) ?_ ?_
 rotate_left
 ·show Act.put _ (some 8) _=_
  simp only[Act.put,kss,i64_w,i32_w]
  rfl
 obtain⟨P21,c22,e23⟩:=K.slice 3 (hv hVs rfl)
 subst e23
 rw[hBs.out,hVs.out,hOs.out]at K
 simp only[kls,klv]at K
 clear hBs hVs hOs HS hH
 refine ko2 (i:=4) (bm_ 5 31) 2 (.slice P21 x10.length c22) (.bool z11) K rfl rfl rfl Z0 X0 B0 (fun W K=>⟨K.cell 0 rfl 0 rfl,K.cell 0 rfl 1 rfl,K.cell 1 rfl 0 rfl,K.cell 1 rfl 1 rfl⟩) ?_
 clear K
 intro W24 K
 simp only[kls,klv]at K
 refine done_ Z0 ?_
 simp only[Option.some.injEq,Prod.mk.injEq]at h
 obtain⟨rfl,rfl⟩:=h
 go_wp2
 refine bodyPost_ret (results_single rfl (.cell g5 90 #[.slice P21 x10.length c22,.bool z11] (0,0) _ rfl (K.u.heap 2 rfl) Tryz.underlying90 rfl Z0 .nil)) rfl ?_
 exact⟨_,rfl,K.u.hand 3 rfl (fun k_ h=>by first|exact h|exact .inr (h.resolve_left id)|(simp only[or_false,false_or,or_self]at h ⊢;first|exact h|(rcases h with h|h<;>simp_all)|simp_all)),K.u.below⟩
def whole_number_long.f (l0_0:List Int) (a0_1:Bool):Option (Bool):=some (decide ((l0_0.length:Int)>4096))
theorem whole_number_long.calls (A0_0:Option Addr) (c0_0:Nat) (l0_0:List Int) (a0_1:Bool) (r:Bool) (w:World) (hr0_0:Kd.C (Kd.int .u64) w A0_0 l0_0.length l0_0) (hc0_0:l0_0.length≤c0_0) (h:whole_number_long.f l0_0 a0_1=some r) :
  Calls Tryz.prog 163 #[.agg #[.slice A0_0 l0_0.length c0_0,.bool a0_1]] w fun e w'=>e=.returned (.bool r)∧Below w.heap.size w w':=by
 have hu90:=Tryz.underlying90
 have K:=Kp.refl w
 replace K:=K.parV (Kd.V_mono (ok':=fun _=>True) (Kd.V_mk (e:=48) (base:=0) hc0_0 (Kd.C_F (Kd.heap_int .u64) hr0_0)) (fun _ h=>trivial))
 clear hr0_0 hc0_0
 try simp only[klv]at K
 rw[whole_number_long.f]at h
 simp only[Option.some.injEq]at h
 subst h
 go_enter Tryz.func163,Tryz.ntmps163
 go_wp2_with (first|(refine gd 1 rfl ?_;refine kbk 1 #[.slice A0_0 l0_0.length c0_0,.bool a0_1] 90 K.u ?_;clear K;intro g1 W2 K;obtain⟨ua0,ub0⟩:=K.cell2 0 rfl))
 go_ret
 exact⟨rfl,K.u.below⟩
def whole_number_told.f (l0_0:List Int) (a0_1:Bool):Option (Bool×List Int×Int):=(whole_number_long.f l0_0 a0_1).bind fun t421=>(if t421=true then(some (false,([]:List Int),5)) else((whole_number_out.f l0_0 a0_1).bind fun bt422=>(some (bt422.1,bt422.2,0))))
theorem whole_number_told.calls (ac:Option Addr) (ad:Nat) (aa:List Int) (ab:Bool) (r1:Bool) (r2:List Int) (r3:Int) (w:World) (ae:Kd.C (Kd.int .u64) w ac aa.length aa) (af:aa.length≤ad) (h:whole_number_told.f aa ab=some (r1,r2,r3)) :
  Calls Tryz.prog 154 #[.agg #[.slice ac aa.length ad,.bool ab]] w fun e w'=>∃v1_:Value,e=.returned (.tuple #[.agg #[.bool r1,v1_],.int .i64 r3])∧Kd.R (Kd.int .u64) 48 w' w.heap.size (fun _=>True) v1_ r2∧Below w.heap.size w w':=by
 have ah:=Tryz.underlying43
 have ai:=Tryz.underlying90
 have K:=Kp.refl w
 replace K:=K.parV (Kd.V_mono (ok':=fun _=>True) (Kd.V_mk (e:=48) (base:=0) af (Kd.C_F (Kd.heap_int .u64) ae)) (fun _ h=>trivial))
 clear ae af
 try simp only[klv]at K
 rw[whole_number_told.f]at h
 replace h:=bindA h
 obtain⟨z5,A6,h⟩:=h
 by_cases c_0:z5=true
 ·subst c_0
  rw[if_pos rfl]at h
  simp only[Option.some.injEq,Prod.mk.injEq]at h
  obtain⟨rfl,rfl,rfl⟩:=h
  go_enter Tryz.func154,Tryz.ntmps154
  go_wp2_with (first|(refine gd 1 rfl ?_;refine kbk 1 #[.slice ac aa.length ad,.bool ab] 90 K.u ?_;clear K;intro g1 W2 K)|(refine gd 2 rfl ?_;refine kbk 2 #[.bool false,.slice none 0 0] 43 K.u ?_;clear K;intro g3 W4 K;obtain⟨ua0,ub0⟩:=K.cell2 0 rfl)|(refine gd 5 rfl ?_;clear ua0 ub0;refine kgl (some 5) rfl rfl Tryz.func163 #[.agg #[.slice ac aa.length ad,.bool ab]] rfl ?_;refine(whole_number_long.calls _ _ aa ab true _ (K.C 0 rfl) (K.le 0 rfl) A6.out).mono ?_;rintro e W7 ⟨rfl,hb⟩;refine⟨_,rfl,?_⟩;replace K:=K.u.up hb;clear hb)|(refine gs 43 2 6 rfl ?_;refine ks2 1 (.bool false) (.slice none 0 0) K.u rfl ?_;clear K;intro W8 K;simp only[kls,klv]at K))
  refine bodyPost_ret (results_list (rs:=[.cell 2 43,.tmp 3]) rfl F1 (.cell g3 43 #[.bool false,.slice none 0 0] (0,0) _ rfl (K.u.heap 1 rfl) Tryz.underlying43 rfl Z0 (.tmp .nil))) rfl ?_
  exact⟨_,rfl,Kd.R_nil _ _ _ _ _,K.u.below⟩
 replace c_0:=Bool.eq_false_iff.mpr c_0
 subst c_0
 rw[if_neg X0]at h
 replace h:=bindA h
 obtain⟨⟨z8,x9⟩,A10,h⟩:=h
 dsimp only at h
 simp only[Option.some.injEq,Prod.mk.injEq]at h
 obtain⟨rfl,rfl,rfl⟩:=h
 go_enter Tryz.func154,Tryz.ntmps154
 go_wp2_with (first|(refine gd 1 rfl ?_;refine kbk 1 #[.slice ac aa.length ad,.bool ab] 90 K.u ?_;clear K;intro g1 W2 K)|(refine gd 2 rfl ?_;refine kbk 2 #[.bool false,.slice none 0 0] 43 K.u ?_;clear K;intro g3 W4 K;obtain⟨ua0,ub0⟩:=K.cell2 0 rfl)|(refine gd 5 rfl ?_;clear ua0 ub0;refine kgl (some 5) rfl rfl Tryz.func163 #[.agg #[.slice ac aa.length ad,.bool ab]] rfl ?_;refine(whole_number_long.calls _ _ aa ab false _ (K.C 0 rfl) (K.le 0 rfl) A6.out).mono ?_;rintro e W7 ⟨rfl,hb⟩;refine⟨_,rfl,?_⟩;replace K:=K.u.up hb;clear hb;obtain⟨ua0,ub0⟩:=K.cell2 0 rfl)|(refine gd 8 rfl ?_;clear ua0 ub0;refine kgl (some 8) rfl rfl Tryz.func153 #[.agg #[.slice ac aa.length ad,.bool ab]] rfl ?_;refine(whole_number_out.calls _ _ aa ab z8 x9 _ (K.C 0 rfl) (K.le 0 rfl) A10.out).mono ?_;rintro e W13 ⟨v11,rfl,ag,hb⟩;refine⟨_,rfl,?_⟩;replace K:=K.u.addRE hb ag;clear hb ag;obtain⟨P14,c15,e16⟩:=K.slice 1 rfl;subst e16)|(refine gs 43 2 8 rfl ?_;refine ks2 1 (.bool z8) (.slice P14 x9.length c15) K.u rfl ?_;clear K;intro W17 K;simp only[kls,klv]at K))
 refine bodyPost_ret (results_list (rs:=[.cell 2 43,.tmp 3]) rfl F1 (.cell g3 43 #[.bool z8,.slice P14 x9.length c15] (0,0) _ rfl (K.u.heap 1 rfl) Tryz.underlying43 rfl Z0 (.tmp .nil))) rfl ?_
 exact⟨_,rfl,K.u.R 0 rfl,K.u.below⟩
def whole_Sub.f (k:Nat) (a0_0:Bool) (l0_1:List Int) (a1_0:Bool) (l1_1:List Int):Option (Bool×List Int×Int):=(whole_of.f k a0_0 l0_1).bind fun bt429=>((whole_of.f k a1_0 l1_1).bind fun bt433=>((whole_number_minus.f k bt429.1 bt429.2 bt433.1 bt433.2).bind fun bt437=>((whole_number_told.f bt437.1 bt437.2).bind fun bt441=>(some (bt441.1,bt441.2.1,bt441.2.2)))))
theorem whole_Sub.mono:∀a0 a1 a2 a3 k,LeO (whole_Sub.f k a0 a1 a2 a3) (whole_Sub.f (k+1) a0 a1 a2 a3):=by
 intro a0 a1 a2 a3 k
 unfold whole_Sub.f
 repeat' first
   | (with_reducible exact whole_number_minus.mono _ _ _ _ _)
   | (with_reducible exact whole_of.mono _ _ _)
   | (with_reducible exact LeO.refl _)
   | (with_reducible exact LeO.none _)
   | (with_reducible refine LeO.ite ?_ ?_)
   | (with_reducible refine LeO.bind ?_ (fun _=>?_))
   | exact whole_number_minus.mono _ _ _ _ _
   | exact whole_of.mono _ _ _
   | exact LeO.none _
   | refine LeO.ite ?_ ?_
   | refine LeO.bind ?_ (fun _=>?_)
def whole_Sub.T1:Bool×List (List Nat×List Nat):=(true,[([],[]),([0],[0]),([],[]),([2,1],[2]),([1,3,3],[1,3]),([4,4],[4]),([5],[5]),([5],[5]),([6,5,0,1,2,3,4,5,6,7],[6]),([7,8,0,1,2,3,4,5,6,7,8],[7])])
def whole_Sub.B1:List Nat:=[0,1,0,7,15,31,63,63,255,511]
theorem whole_Sub.tab1:rtab .any (opsOf Tryz.f89 1)=whole_Sub.T1:=by kernel_rfl
theorem whole_Sub.bits1:waitsOk whole_Sub.T1.2 whole_Sub.B1=true:=by kernel_rfl
theorem whole_Sub.calls (k:Nat) (ac:Bool) (ae:Option Addr) (af:Nat) (aa:List Int) (ad:Bool) (ag:Option Addr) (ah:Nat) (ab:List Int) (r1:Bool) (r2:List Int) (r3:Int) (w:World) (ai:Kd.C (Kd.int .u64) w ae aa.length aa) (aj:aa.length≤af) (ak:Kd.C (Kd.int .u64) w ag ab.length ab) (al:ab.length≤ah) (h:whole_Sub.f k ac aa ad ab=some (r1,r2,r3)) :
  Calls Tryz.prog 89 #[.agg #[.bool ac,.slice ae aa.length af],.agg #[.bool ad,.slice ag ab.length ah]] w fun e w'=>∃v1_:Value,e=.returned (.tuple #[.agg #[.bool r1,v1_],.int .i64 r3])∧Kd.R (Kd.int .u64) 48 w' w.heap.size (fun _=>True) v1_ r2∧Below w.heap.size w w':=by
 have aq:=Tryz.underlying43
 have K:=Kp.refl w
 replace K:=K.parV (Kd.V_mono (ok':=fun _=>True) (Kd.V_mk (e:=48) (base:=0) aj (Kd.C_F (Kd.heap_int .u64) ai)) (fun _ h=>trivial))
 clear ai aj
 replace K:=K.parV (Kd.V_mono (ok':=fun _=>True) (Kd.V_mk (e:=48) (base:=0) al (Kd.C_F (Kd.heap_int .u64) ak)) (fun _ h=>trivial))
 clear ak al
 try simp only[klv]at K
 rw[whole_Sub.f]at h
 go_enter Tryz.func89,Tryz.ntmps89
 go_wp2_with (first|(refine gd 2 rfl ?_;refine kbk 2 #[.bool ac,.slice ae aa.length af] 43 K.u ?_;clear K;intro g1 W2 K)|(refine gd 3 rfl ?_;refine kbk 3 #[.bool ad,.slice ag ab.length ah] 43 K.u ?_;clear K;intro g3 W4 K)|(refine gd 4 rfl ?_;refine kbk 4 #[.bool false,.slice none 0 0] 43 K.u ?_;clear K;intro g5 W6 K))
 replace h:=bindA h
 obtain⟨⟨x7,z8⟩,A9,h⟩:=h
 dsimp only at h
 replace h:=bindA h
 obtain⟨⟨x10,z11⟩,A12,h⟩:=h
 dsimp only at h
 replace h:=bindA h
 obtain⟨⟨x13,z14⟩,A15,h⟩:=h
 dsimp only at h
 replace h:=bindA h
 obtain⟨⟨z16,x17,n18⟩,A19,h⟩:=h
 dsimp only at h
 obtain⟨Bs,Vs,Os,hBs,hVs,hOs,K⟩:=K.abs
 have HS:Aside0 (∀l m o W,Kp w (Bs++l) m o W→W.cell? ⟨g1,0,none⟩=some (.bool ac)∧W.cell? ⟨g1,1,none⟩=some (.slice ae aa.length af)∧W.cell? ⟨g3,0,none⟩=some (.bool ad)∧W.cell? ⟨g3,1,none⟩=some (.slice ag ab.length ah)):=⟨fun l m o W K=>by rw[hBs.out]at K;exact⟨K.cell 0 rfl 0 rfl,K.cell 0 rfl 1 rfl,K.cell 1 rfl 0 rfl,K.cell 1 rfl 1 rfl⟩⟩
 refine kpstart (n:=10) (ds:=[]) (S:=fun W=>W.cell? ⟨g1,0,none⟩=some (.bool ac)∧W.cell? ⟨g1,1,none⟩=some (.slice ae aa.length af)∧W.cell? ⟨g3,0,none⟩=some (.bool ad)∧W.cell? ⟨g3,1,none⟩=some (.slice ag ab.length ah)) (bm_ 10 0) Z0 rfl rfl K (HS.out [] _ _) (fun W24 K hH=>?_)
 refine with_tabW whole_Sub.tab1 whole_Sub.bits1 (fun HT_ HW_=>?_)
 refine tk_ 0 6 ?_ (bm_ 10 1) rfl rfl (take_ofW HT_.out HW_.out Z0) (fun _ _ _ h=>h) B0 ?_ hH ?_ ?_ ?_
 rotate_left
 ·rintro w' ⟨s0,s1,s2,s3⟩
  go_simp
  with_reducible rfl
 rotate_left
 ·simp only[Act.put,kss,i64_w,i32_w]
  rfl
 refine tk_ 2 8 ?_ (bm_ 10 5) rfl rfl (take_ofW HT_.out HW_.out Z0) (fun _ _ _ h=>h) B0 ?_ hH ?_ ?_ ?_
 rotate_left
 ·rintro w' ⟨s0,s1,s2,s3⟩
  go_simp
  with_reducible rfl
 rotate_left
 ·simp only[Act.put,kss,i64_w,i32_w]
  rfl
 refine one_ (i:=1) (N:=some 7) (bm_ 10 7) rfl rfl (one_of HT_.out Z0) X0 (fun Kc hK=>?_)
 refine kgo Tryz.func51 #[.agg #[.bool ac,.slice ae aa.length af]] B0 rfl rfl ?_
 refine(whole_of.calls _ ac _ _ _ aa x7 z8 _ (K.V 0 (hv hVs rfl)) A9.out).mono ?_
 rintro e W' ⟨v20,rfl,am,hb⟩
 replace K:=K.addI 0 (fun _=>True) hb am (fun _ h=>h.t)
 clear hb am
 refine⟨_,rfl,hK.out _ _ (HS.out _ _ _ _ K) fun hH=>?_⟩
 clear hK Kc
 refine norm_ (a':=?_) ?_ ?_
 rotate_left
 ·show Act.put _ (some 7) _=_
  simp only[Act.put,kss,i64_w,i32_w]
  rfl
 refine one_ (i:=3) (N:=some 9) (bm_ 10 15) rfl rfl (one_of HT_.out Z0) X0 (fun Kc hK=>?_)
 refine kgo Tryz.func51 #[.agg #[.bool ad,.slice ag ab.length ah]] B0 rfl rfl ?_
 refine(whole_of.calls _ ad _ _ _ ab x10 z11 _ (K.V 1 (hv hVs rfl)) A12.out).mono ?_
 rintro e W' ⟨v21,rfl,an,hb⟩
 replace K:=K.addI 1 (fun _=>True) hb an (fun _ h=>h.t)
 clear hb an
 refine⟨_,rfl,hK.out _ _ (HS.out _ _ _ _ K) fun hH=>?_⟩
 clear hK Kc
 refine norm_ (a':=?_) ?_ ?_
 rotate_left
 ·show Act.put _ (some 9) _=_
  simp only[Act.put,kss,i64_w,i32_w]
  rfl
 refine one_ (i:=4) (N:=some 10) (bm_ 10 31) rfl rfl (one_of HT_.out Z0) X0 (fun Kc hK=>?_)
 obtain⟨P27,c28,e29⟩:=K.slice 2 (hv hVs rfl)
 subst e29
 obtain⟨P30,c31,e32⟩:=K.slice 3 (hv hVs rfl)
 subst e32
 refine kgo Tryz.func146 #[.agg #[.slice P27 x7.length c28,.bool z8],.agg #[.slice P30 x10.length c31,.bool z11]] B0 rfl rfl ?_
 refine(whole_number_minus.calls _ _ _ _ x7 z8 _ _ _ x10 z11 x13 z14 _ (K.V 2 (hv hVs rfl)) (K.V 3 (hv hVs rfl)) A15.out).mono ?_
 rintro e W' ⟨v22,rfl,ao,hb⟩
 replace K:=K.addI 2 (fun _=>True) hb ao (fun _ h=>h.elim (fun h=>h.t) fun h=>h.t)
 clear hb ao
 refine⟨_,rfl,hK.out _ _ (HS.out _ _ _ _ K) fun hH=>?_⟩
 clear hK Kc
 refine norm_ (a':=?_) ?_ ?_
 rotate_left
 ·show Act.put _ (some 10) _=_
  simp only[Act.put,kss,i64_w,i32_w]
  rfl
 refine one_ (i:=5) (N:=some 11) (bm_ 10 63) rfl rfl (one_of HT_.out Z0) X0 (fun Kc hK=>?_)
 obtain⟨P34,c35,e36⟩:=K.slice 4 (hv hVs rfl)
 subst e36
 refine kgo Tryz.func154 #[.agg #[.slice P34 x13.length c35,.bool z14]] B0 rfl rfl ?_
 refine(whole_number_told.calls _ _ x13 z14 z16 x17 n18 _ (K.C 4 (hv hVs rfl)) (K.le 4 (hv hVs rfl)) A19.out).mono ?_
 rintro e W' ⟨v23,rfl,ap,hb⟩
 replace K:=K.addRI 3 0 hb ap (lb rfl)
 clear hb ap
 refine⟨_,rfl,hK.out _ _ (HS.out _ _ _ _ K) fun hH=>?_⟩
 refine norm_ (a':=?_) ?_ ?_
 rotate_left
 ·show Act.put _ (some 11) _=_
  simp only[Act.put,kss,i64_w,i32_w]
  rfl
 refine pu_ 6 12 ?_ (bm_ 10 127) rfl rfl (any_of HT_.out Z0) (fun _ _ _ h=>h) B0 ?_ ?_ ?_ ?_
 rotate_left
 ·intro w'
  go_simp
  with_reducible rfl
 rotate_left
 ·simp only[Act.put,kss,i64_w,i32_w]
  rfl
 refine pu_ 7 13 ?_ (bm_ 10 255) rfl rfl (any_of HT_.out Z0) (fun _ _ _ h=>h) B0 ?_ ?_ ?_ ?_
 rotate_left
 ·intro w'
  go_simp
  with_reducible rfl
 rotate_left
 ·simp only[Act.put,kss,i64_w,i32_w]
  rfl
 clear hK Kc
 obtain⟨P38,c39,e40⟩:=K.slice 5 (hv hVs rfl)
 subst e40
 rw[hBs.out,hVs.out,hOs.out]at K
 simp only[kls,klv]at K
 clear hBs hVs hOs HS hH
 refine ko2 (i:=8) (bm_ 10 511) 2 (.bool z16) (.slice P38 x17.length c39) K rfl rfl rfl (one_of HT_.out Z0) X0 B0 (fun W K=>⟨K.cell 0 rfl 0 rfl,K.cell 0 rfl 1 rfl,K.cell 1 rfl 0 rfl,K.cell 1 rfl 1 rfl⟩) ?_
 clear K
 intro W41 K
 simp only[kls,klv]at K
 refine pu_ 9 5 ?_ (bm_ 10 1023) rfl rfl (any_of HT_.out Z0) (fun _ _ _ h=>h) B0 ?_ ?_ ?_ ?_
 rotate_left
 ·intro w'
  go_simp
  with_reducible rfl
 rotate_left
 ·simp only[Act.put,kss,i64_w,i32_w]
  rfl
 refine done_ (done_of HT_.out Z0) ?_
 clear HT_ HW_
 simp only[Option.some.injEq,Prod.mk.injEq]at h
 obtain⟨rfl,rfl,rfl⟩:=h
 go_wp2
 refine bodyPost_ret (results_list (rs:=[.cell 4 43,.tmp 5]) rfl F1 (.cell g5 43 #[.bool z16,.slice P38 x17.length c39] (0,0) _ rfl (K.u.heap 2 rfl) Tryz.underlying43 rfl Z0 (.tmp .nil))) rfl ?_
 exact⟨_,rfl,K.u.R 0 rfl,K.u.below⟩
theorem cut_to3 {P:Program} (t e:TypeId) (kh km:IntKind) {i:TypeInfo} (ht:P.underlying t=some (.slice e)) (hi:P.info? e=some i) (A:Option Addr) (n c:Nat) (j:Int) (h0:0≤j) (hm:j≤n) (hc:n≤c) :
  ∀W:World,(Instr.slice t (.slice A n c) none (some (.int kh j)) (some (.int km j))).run P W=.ok (.slice A j.toNat j.toNat) W:=by
 intro W
 have hel:P.elem t=e:=by simp[Program.elem,ht]
 have hu:P.underlying t=some (.slice (P.elem t)):=by rw[hel];exact ht
 have ha:(A.map fun x=>x.add 0)=A:=by cases A<;>simp[Addr.add]
 rw[run_slice_hm W t A n c hu kh km j j h0 Y0 Y0,hel]
 simp[sizeOf,typeInfo,hi,sliced,Result.andThen,ha]
def nat_trim.l0:Nat→List Int→Int→Option (List Int)
 | 0,_,_=>none
 | k+1,x0,x3=>if x3>0 then(if 0≤(wrap64 (x3-1)) then(if(wrap64 (x3-1))<(x0.length:Int) then(if(rd x0 (wrap64 (x3-1)))=0 then(nat_trim.l0 k x0 (wrap64 (x3-1))) else(if 0≤x3 then(if x3≤(x0.length:Int) then(some (x0.take (x3:Int).toNat)) else(none)) else(none))) else(none)) else(none)) else(if 0≤x3 then(if x3≤(x0.length:Int) then(some (x0.take (x3:Int).toNat)) else(none)) else(none))
def nat_trim.f (k:Nat) (l0:List Int):Option (List Int):=nat_trim.l0 k l0 (l0.length:Int)
theorem nat_trim.mono_l:∀k,(∀y0 y1,LeO (nat_trim.l0 k y0 y1) (nat_trim.l0 (k+1) y0 y1))
 | 0=>fun _ _ r h=>by simp[nat_trim.l0]at h
 | k+1=>by
  have ih0:=nat_trim.mono_l k
  intro y0 y1
  unfold nat_trim.l0
  repeat' first
  | (with_reducible exact ih0 _ _)
  | (with_reducible exact LeO.refl _)
  | (with_reducible exact LeO.none _)
  | (with_reducible refine LeO.ite ?_ ?_)
  | (with_reducible refine LeO.bind ?_ (fun _=>?_))
  | exact ih0 _ _
  | exact LeO.none _
  | refine LeO.ite ?_ ?_
  | refine LeO.bind ?_ (fun _=>?_)
theorem nat_trim.mono:∀a0 k,LeO (nat_trim.f k a0) (nat_trim.f (k+1) a0):=by
 intro a0 k
 have ih0:=nat_trim.mono_l k
 unfold nat_trim.f
 repeat' first
   | (with_reducible exact ih0 _ _)
   | (with_reducible exact LeO.refl _)
   | (with_reducible exact LeO.none _)
   | (with_reducible refine LeO.ite ?_ ?_)
   | (with_reducible refine LeO.bind ?_ (fun _=>?_))
   | exact ih0 _ _
   | exact LeO.none _
   | refine LeO.ite ?_ ?_
   | refine LeO.bind ?_ (fun _=>?_)
theorem nat_trim.calls (k:Nat) (P0_:Nat→Prop) (A0:Option Addr) (c0:Nat) (l0:List Int) (r:List Int) (w:World) (hs0:Kd.V (Kd.int .u64) 48 w w.heap.size (fun k_=>P0_ k_) (.slice A0 l0.length c0) l0) (h:nat_trim.f k l0=some r) :
  Calls Tryz.prog 96 #[.slice A0 l0.length c0] w fun e w'=>∃v0_:Value,e=.returned (v0_)∧Kd.V (Kd.int .u64) 48 w' w.heap.size (fun k_=>(P0_ k_∨w.heap.size≤k_)) v0_ r∧Below w.heap.size w w':=by
 have HO0:=Aside0.mk (show Kd.V (Kd.int .u64) 48 w w.heap.size (fun k_=>(P0_ k_∨w.heap.size≤k_)) (.slice A0 l0.length c0) l0 from Kd.V_mono hs0 (fun k_ hk=>.inl hk))
 have HB:=Aside0.mk (Below.refl w.heap.size w)
 have H:(nat_trim.l0 k l0 (l0.length:Int))=some r:=h
 clear h
 have H':=Aside0.mk H
 clear H
 go_enter Tryz.func96,Tryz.ntmps96
 go_wp2
 go_loopg [3] k (fun kq v3 w'=>∃(aa:Int),v3=.int .i64 aa∧Aside0 (nat_trim.l0 kq l0 aa=some r)∧Aside0 (kq≤k)∧Aside0 (Kd.V (Kd.int .u64) 48 w' w.heap.size (fun k_=>(P0_ k_∨w.heap.size≤k_)) (.slice A0 l0.length c0) l0)∧Aside0 (Below w.heap.size w w'))
 case atStart=>exact⟨((l0.length:Int)),F0,H',⟨Nat.le_refl _⟩,⟨by(with_reducible repeat (first|apply Kd.V_alloc|apply Kd.V_drewN|apply Kd.V_drew));exact HO0.out⟩,⟨X1⟩⟩
 case round=>
  clear H'
  obtain⟨aa,rfl,HA,HK1,ab,HB⟩:=hrel
  cases gk with
  | zero=>exact absurd HA.out (by simp[nat_trim.l0])
  | succ k1=>
   have H:=HA.out
   clear HA
   simp only[nat_trim.l0]at H
   by_cases c2:aa>0
   ·rw [if_pos c2]at H
    have aB:decide (0<aa)=true:=decide_eq_true c2
    clear c2
    obtain⟨ji3,hji3⟩:∃j_:Int,(wrap64 (aa-1))=j_:=⟨_,rfl⟩
    replace H:(if 0≤(ji3) then(if(ji3)<(l0.length:Int) then(if(rd l0 (ji3))=0 then(nat_trim.l0 k1 l0 ji3) else(if 0≤aa then(if aa≤(l0.length:Int) then(some (l0.take (aa:Int).toNat)) else(none)) else(none))) else(none)) else(none))=some r:=by first|(rw[hji3]at H;exact H)|(simp only[hji3]at H ⊢;exact H)
    have aF:(IntKind.i64.wrap (aa-1))=ji3:=(i64_w _).trans hji3
    by_cases c4:0≤(ji3)
    ·rw [if_pos c4]at H
     have aM:decide (0≤(ji3))=true:=decide_eq_true c4
     clear c4
     by_cases c5:(ji3)<(l0.length:Int)
     ·rw[if_pos c5]at H
      have aN:decide ((ji3)<(l0.length:Int))=true:=decide_eq_true c5
      clear c5
      by_cases c6:(rd l0 (ji3))=0
      ·rw[if_pos c6]at H
       have aC:((rd l0 (ji3))==0)=true:=beq_iff_eq.mpr c6
       have aD:((rd l0 (ji3)) != 0)=false:=bne_eq_false_iff_eq.mpr c6
       clear c6
       have H':=Aside0.mk H
       clear H
       have ac:0≤((ji3):Int):=of_decide_eq_true X3
       have ad:(ji3)<(l0.length:Int):=of_decide_eq_true X3
       obtain⟨ai,al,ar⟩:=Kd.at_int (Kd.V_reads' ab.out).2.2 (ji3) ac ad
       cases al
       replace ac:=eq_true ac
       replace ad:=eq_true ad
       go_wp2
       go_roundg k1
       case measure=>have:=HK1.out;omega
       case rel=>exact⟨(ji3),F6,H',⟨V3⟩,⟨by(with_reducible repeat (first|apply Kd.V_alloc|apply Kd.V_drewN|apply Kd.V_drew));exact ab.out⟩,⟨X1⟩⟩
      rw[if_neg c6]at H
      have aC:((rd l0 (ji3))==0)=false:=beq_eq_false_iff_ne.mpr c6
      have aD:((rd l0 (ji3)) != 0)=true:=bne_iff_ne.mpr c6
      by_cases c7:0≤aa
      ·rw[if_pos c7]at H
       have aO:=eq_true c7
       have aP:decide (0≤aa)=true:=decide_eq_true c7
       clear c7
       by_cases c8:aa≤(l0.length:Int)
       ·rw[if_pos c8]at H
        have aQ:=eq_true c8
        have aR:decide (aa≤(l0.length:Int))=true:=decide_eq_true c8
        clear c8
        obtain⟨ag,ae⟩:∃y_:List Int,y_=(l0.take (aa:Int).toNat):=⟨_,rfl⟩
        replace H:(some ag)=some r:=by first|(rw[ae];with_reducible exact H)|(have H2_:=(Option.bind_some _ _).symm.trans H;rw[ae];with_reducible exact H2_)|(have H2_:=(Option.bind_some _ _).symm.trans H;with_reducible exact H2_)|with_reducible exact H|(rw[ae];exact H)|exact H
        have ao:=Aside0.mk ae
        clear ae
        obtain rfl:=Option.some.inj H
        have ac:0≤((ji3):Int):=of_decide_eq_true X3
        have ad:(ji3)<(l0.length:Int):=of_decide_eq_true X3
        obtain⟨ai,al,ar⟩:=Kd.at_int (Kd.V_reads' ab.out).2.2 (ji3) ac ad
        cases al
        replace ac:=eq_true ac
        replace ad:=eq_true ad
        have q9:(aa:Int)≤((l0.length:Int):Int):=of_decide_eq_true X3
        obtain⟨i09,au,_,aE,_⟩:=info_parts info48
        have ak:l0.length≤c0:=(Kd.V_reads' ab.out).2.1
        have hC9:Kd.F (Kd.int .u64) _ _ (some ai) l0.length l0:=(Kd.V_at (base:=w.heap.size) ab.out).2.2
        have ax:=cut_to3 (P:=Tryz.prog) 26 48 .i64 .i64 Tryz.underlying26 au (some ai) l0.length c0 aa (of_decide_eq_true X3) q9 ak
        have hr9:=Kd.F_take (m:=(aa:Int).toNat) hC9 Y0
        have hy9:ag.length=(aa:Int).toNat:=(by rw[ao.out,List.length_take];omega)
        rw[←ao.out]at hr9
        rw[←hy9]at ax
        have ay:=Aside0.mk (show Kd.V (Kd.int .u64) 48 _ w.heap.size _ (.slice (some ai) ag.length ag.length) ag from Kd.V_mk Y0 hr9)
        have aG:=Aside0.mk (show ag.length≤c0 from by omega)
        clear hr9 hC9 ak au aE
        have KY9:=Aside0.mk hy9
        clear hy9
        replace q9:=eq_true q9
        go_wp2
        go_ret
        exact⟨_,U2,by(with_reducible repeat (first|apply Kd.V_alloc|apply Kd.V_drewN|apply Kd.V_drew));exact ay.out,X1⟩
       rw[if_neg c8]at H
       exact absurd H F1
      rw[if_neg c7]at H
      exact absurd H F1
     rw[if_neg c5]at H
     exact absurd H F1
    rw[if_neg c4]at H
    exact absurd H F1
   rw[if_neg c2]at H
   have aB:decide (0<aa)=false:=decide_eq_false c2
   clear c2
   by_cases c10:0≤aa
   ·rw[if_pos c10]at H
    have aH:=eq_true c10
    have aI:decide (0≤aa)=true:=decide_eq_true c10
    clear c10
    by_cases c11:aa≤(l0.length:Int)
    ·rw[if_pos c11]at H
     have aJ:=eq_true c11
     have aK:decide (aa≤(l0.length:Int))=true:=decide_eq_true c11
     clear c11
     obtain⟨ah,af⟩:∃y_:List Int,y_=(l0.take (aa:Int).toNat):=⟨_,rfl⟩
     replace H:(some ah)=some r:=by first|(rw[af];with_reducible exact H)|(have H2_:=(Option.bind_some _ _).symm.trans H;rw[af];with_reducible exact H2_)|(have H2_:=(Option.bind_some _ _).symm.trans H;with_reducible exact H2_)|with_reducible exact H|(rw[af];exact H)|exact H
     have ap:=Aside0.mk af
     clear af
     obtain rfl:=Option.some.inj H
     have q12:(aa:Int)≤((l0.length:Int):Int):=of_decide_eq_true X3
     obtain⟨i012,aq,_,az,_⟩:=info_parts info48
     have aj:l0.length≤c0:=(Kd.V_reads' ab.out).2.1
     have av:Kd.F (Kd.int .u64) _ _ A0 l0.length l0:=(Kd.V_at (base:=w.heap.size) ab.out).2.2
     have aw:=cut_to3 (P:=Tryz.prog) 26 48 .i64 .i64 Tryz.underlying26 aq A0 l0.length c0 aa (of_decide_eq_true X3) q12 aj
     have am:=Kd.F_take (m:=(aa:Int).toNat) av Y0
     have an:ah.length=(aa:Int).toNat:=(by rw[ap.out,List.length_take];omega)
     rw[←ap.out]at am
     rw[←an]at aw
     have aA:=Aside0.mk (show Kd.V (Kd.int .u64) 48 _ w.heap.size _ (.slice A0 ah.length ah.length) ah from Kd.V_mk Y0 am)
     have aL:=Aside0.mk (show ah.length≤c0 from by omega)
     clear am av aj aq az
     have aS:=Aside0.mk an
     clear an
     replace q12:=eq_true q12
     go_wp2
     go_ret
     exact⟨_,D4,by(with_reducible repeat (first|apply Kd.V_alloc|apply Kd.V_drewN|apply Kd.V_drew));exact aA.out,X1⟩
    rw[if_neg c11]at H
    exact absurd H F1
   rw[if_neg c10]at H
   exact absurd H F1
def nat_long.l0:Nat→List (List Int)→Int→Int→Option (Bool)
 | 0,_,_,_=>none
 | k+1,x5,x6,x7=>if x7<x6 then(if 0≤x7 then(if x7<(x5.length:Int) then((nat_trim.f k (rd_L1 x5 x7)).bind fun t670=>(if(t670.length:Int)>4096 then(some true) else(nat_long.l0 k x5 x6 (wrap64 (x7+1))))) else(none)) else(none)) else(some false)
def nat_long.f (k:Nat) (l0:List (List Int)):Option (Bool):=nat_long.l0 k l0 (l0.length:Int) 0
theorem nat_long.mono_l:∀k,(∀y0 y1 y2,LeO (nat_long.l0 k y0 y1 y2) (nat_long.l0 (k+1) y0 y1 y2))
 | 0=>fun _ _ _ r h=>by simp[nat_long.l0]at h
 | k+1=>by
  have ih0:=nat_long.mono_l k
  intro y0 y1 y2
  unfold nat_long.l0
  repeat' first
  | (with_reducible exact ih0 _ _ _)
  | (with_reducible exact nat_trim.mono _ _)
  | (with_reducible exact LeO.refl _)
  | (with_reducible exact LeO.none _)
  | (with_reducible refine LeO.ite ?_ ?_)
  | (with_reducible refine LeO.bind ?_ (fun _=>?_))
  | exact ih0 _ _ _
  | exact nat_trim.mono _ _
  | exact LeO.none _
  | refine LeO.ite ?_ ?_
  | refine LeO.bind ?_ (fun _=>?_)
theorem nat_long.mono:∀a0 k,LeO (nat_long.f k a0) (nat_long.f (k+1) a0):=by
 intro a0 k
 have ih0:=nat_long.mono_l k
 unfold nat_long.f
 repeat' first
   | (with_reducible exact ih0 _ _ _)
   | (with_reducible exact nat_trim.mono _ _)
   | (with_reducible exact LeO.refl _)
   | (with_reducible exact LeO.none _)
   | (with_reducible refine LeO.ite ?_ ?_)
   | (with_reducible refine LeO.bind ?_ (fun _=>?_))
   | exact ih0 _ _ _
   | exact nat_trim.mono _ _
   | exact LeO.none _
   | refine LeO.ite ?_ ?_
   | refine LeO.bind ?_ (fun _=>?_)
theorem nat_long.calls (k:Nat) (A0:Option Addr) (c0:Nat) (l0:List (List Int)) (r:Bool) (w:World) (hr0:Kd.C (Kd.slice 48 (Kd.int .u64)) w A0 l0.length l0) (hc0:l0.length≤c0) (h:nat_long.f k l0=some r) :
  Calls Tryz.prog 164 #[.slice A0 l0.length c0] w fun e w'=>e=.returned (.bool r)∧Below w.heap.size w w':=by
 have HR0:=Aside0.mk hr0
 have HC0:=Aside0.mk hc0
 clear hr0 hc0
 have HB:=Aside0.mk (Below.refl w.heap.size w)
 have H:(nat_long.l0 k l0 (l0.length:Int) 0)=some r:=h
 clear h
 have H':=Aside0.mk H
 clear H
 go_enter Tryz.func164,Tryz.ntmps164
 go_wp2
 go_loopg [7] k (fun kq v7 w'=>∃(aa:Int),v7=.int .i64 aa∧Aside0 (nat_long.l0 kq l0 (l0.length:Int) aa=some r)∧Aside0 (kq≤k)∧Aside0 (Below w.heap.size w w'))
 case atStart=>exact⟨(0),F0,H',⟨Nat.le_refl _⟩,⟨khu HB.out⟩⟩
 case round=>
  clear H'
  try clear c1
  obtain⟨aa,rfl,HA,HK1,HB⟩:=hrel
  cases gk with
  | zero=>exact absurd HA.out (by simp[nat_long.l0])
  | succ k1=>
   have H:=HA.out
   clear HA
   simp only[nat_long.l0]at H
   by_cases c2:aa<(l0.length:Int)
   ·rw [if_pos c2]at H
    have ao:decide (aa<(l0.length:Int))=true:=decide_eq_true c2
    clear c2
    by_cases c3:0≤aa
    ·rw[if_pos c3]at H
     have av:decide (0≤aa)=true:=decide_eq_true c3
     clear c3
     by_cases c4:aa<(l0.length:Int)
     ·rw[if_pos c4]at H
      have aw:decide (aa<(l0.length:Int))=true:=decide_eq_true c4
      clear c4
      replace H:=Option.bind_eq_some_iff.mp H
      obtain⟨ae,A50,H⟩:=H
      replace H:(if(ae.length:Int)>4096 then(some true) else(nat_long.l0 k1 l0 (l0.length:Int) (wrap64 (aa+1))))=some r:=H
      have A5:=Aside0.mk A50
      clear A50
      by_cases c6:(ae.length:Int)>4096
      ·rw[if_pos c6]at H
       have ap:decide (4096<(ae.length:Int))=true:=decide_eq_true c6
       have aq:decide (4096<ae.length)=true:=decide_eq_true Y0
       clear c6
       obtain rfl:=Option.some.inj H
       have af:0≤(aa:Int):=of_decide_eq_true ‹_›
       have ag:aa<(l0.length:Int):=of_decide_eq_true ‹_›
       obtain⟨an,aj,ak,am,ab,ac,ad⟩:=at_L1 HR0.out aa af ag
       cases am
       replace ab:=(HB.out.cell (World.block_lt_of_cell? w _ ab)).trans ab
       have ah:=Aside0.mk ad
       have ai:=Aside0.mk ac
       clear ad ac
       replace af:=eq_true af
       replace ag:=eq_true ag
       go_wp2_with (first|((with_reducible refine gate_callee (f:=96) rfl ?_);refine kgl (some 12) rfl rfl Tryz.func96 #[.slice aj (rd_L1 l0 aa).length ak] rfl ?_;(with_reducible refine(nat_trim.calls k1 (fun k_=>k_<w.heap.size) _ _ (rd_L1 l0 aa) ae _ ?side1 A5.out).mono ?_);(case side1=>exact Kd.V_mk ai.out (Kd.F_below (Kd.C_F (Kd.heap_int .u64) ah.out) (khu HB.out)));rintro e w7 ⟨ar,rfl,ho0,hb⟩;refine⟨_,rfl,?_⟩;have al:=Aside0.mk (Kd.V_lower (Kd.V_mono (ok':=fun k_=>True) ho0 (fun k_ hk_=>trivial)) (below_size (khu HB.out)));replace HB:=kbs HB hb;(try clear hb);(try clear hb2);(try clear hk);(try clear hi);(try clear ho0);obtain⟨Ao8,co8,eo8⟩:=Kd.V_slice al.out;subst eo8))
       go_ret
       exact⟨Z1,khu HB.out⟩
      rw[if_neg c6]at H
      have ap:decide (4096<(ae.length:Int))=false:=decide_eq_false c6
      have aq:decide (4096<ae.length)=false:=decide_eq_false Y0
      clear c6
      have H':=Aside0.mk H
      clear H
      have af:0≤(aa:Int):=of_decide_eq_true ‹_›
      have ag:aa<(l0.length:Int):=of_decide_eq_true ‹_›
      obtain⟨an,aj,ak,am,ab,ac,ad⟩:=at_L1 HR0.out aa af ag
      cases am
      replace ab:=(HB.out.cell (World.block_lt_of_cell? w _ ab)).trans ab
      have ah:=Aside0.mk ad
      have ai:=Aside0.mk ac
      clear ad ac
      replace af:=eq_true af
      replace ag:=eq_true ag
      go_wp2_with (first|((with_reducible refine gate_callee (f:=96) rfl ?_);refine kgl (some 12) rfl rfl Tryz.func96 #[.slice aj (rd_L1 l0 aa).length ak] rfl ?_;(with_reducible refine(nat_trim.calls k1 (fun k_=>k_<w.heap.size) _ _ (rd_L1 l0 aa) ae _ ?side1 A5.out).mono ?_);(case side1=>exact Kd.V_mk ai.out (Kd.F_below (Kd.C_F (Kd.heap_int .u64) ah.out) (khu HB.out)));rintro e w9 ⟨ar,rfl,ho0,hb⟩;refine⟨_,rfl,?_⟩;have al:=Aside0.mk (Kd.V_lower (Kd.V_mono (ok':=fun k_=>True) ho0 (fun k_ hk_=>trivial)) (below_size (khu HB.out)));replace HB:=kbs HB hb;(try clear hb);(try clear hb2);(try clear hk);(try clear hi);(try clear ho0);obtain⟨ax,ay,au⟩:=Kd.V_slice al.out;subst au))
      go_roundg k1
      case measure=>have:=HK1.out;omega
      case rel=>exact⟨(wrap64 (aa+1)),F0,H',⟨V3⟩,⟨khu HB.out⟩⟩
     rw[if_neg c4]at H
     exact absurd H F1
    rw[if_neg c3]at H
    exact absurd H F1
   rw[if_neg c2]at H
   have ao:decide (aa<(l0.length:Int))=false:=decide_eq_false c2
   clear c2
   obtain rfl:=Option.some.inj H
   go_wp2
   go_ret
   exact⟨Z1,khu HB.out⟩
def nat_own.f (k:Nat) (l0:List Int):Option (List Int):=(nat_trim.f k l0).bind fun t673=>(if(t673.length:Int)=0 then(some ([]:List Int)) else((api_Nat_uint64.f t673).bind fun t676=>(some t676)))
theorem nat_own.mono:∀a0 k,LeO (nat_own.f k a0) (nat_own.f (k+1) a0):=by
 intro a0 k
 unfold nat_own.f
 repeat' first
   | (with_reducible exact nat_trim.mono _ _)
   | (with_reducible exact LeO.refl _)
   | (with_reducible exact LeO.none _)
   | (with_reducible refine LeO.ite ?_ ?_)
   | (with_reducible refine LeO.bind ?_ (fun _=>?_))
   | exact nat_trim.mono _ _
   | exact LeO.none _
   | refine LeO.ite ?_ ?_
   | refine LeO.bind ?_ (fun _=>?_)
theorem nat_own.calls (k:Nat) (A0:Option Addr) (c0:Nat) (l0:List Int) (r:List Int) (w:World) (hr0:Kd.C (Kd.int .u64) w A0 l0.length l0) (hc0:l0.length≤c0) (h:nat_own.f k l0=some r) :
  Calls Tryz.prog 179 #[.slice A0 l0.length c0] w fun e w'=>∃v0_:Value,e=.returned (v0_)∧Kd.R (Kd.int .u64) 48 w' w.heap.size (fun _=>True) v0_ r∧Below w.heap.size w w':=by
 have HR0:=Aside0.mk hr0
 have HC0:=Aside0.mk hc0
 clear hr0 hc0
 have HB:=Aside0.mk (Below.refl w.heap.size w)
 have H:((nat_trim.f k l0).bind fun aa=>(if(aa.length:Int)=0 then(some ([]:List Int)) else((api_Nat_uint64.f aa).bind fun ac=>(some ac))))=some r:=h
 clear h
 replace H:=Option.bind_eq_some_iff.mp H
 obtain⟨aa,A20,H⟩:=H
 replace H:(if(aa.length:Int)=0 then(some ([]:List Int)) else((api_Nat_uint64.f aa).bind fun ac=>(some ac)))=some r:=H
 have A2:=Aside0.mk A20
 clear A20
 by_cases c3:(aa.length:Int)=0
 ·rw[if_pos c3]at H
  have ae:((aa.length:Int)==0)=true:=beq_iff_eq.mpr c3
  have af:((aa.length:Int) != 0)=false:=bne_eq_false_iff_eq.mpr c3
  clear c3
  obtain rfl:=Option.some.inj H
  go_enter Tryz.func179,Tryz.ntmps179
  go_wp2_with (first|((with_reducible refine gate_callee (f:=96) rfl ?_);refine kgl (some 4) rfl rfl Tryz.func96 #[.slice A0 l0.length c0] rfl ?_;(with_reducible refine(nat_trim.calls k (fun k_=>k_<w.heap.size) _ _ l0 aa _ ?side1 A2.out).mono ?_);(case side1=>exact Kd.V_mk HC0.out (Kd.F_below (Kd.C_F (Kd.heap_int .u64) HR0.out) (khu HB.out)));rintro e w4 ⟨ag,rfl,ho0,hb⟩;refine⟨_,rfl,?_⟩;have ab:=Aside0.mk (Kd.V_lower (Kd.V_mono (ok':=fun k_=>True) ho0 (fun k_ hk_=>trivial)) (below_size (khu HB.out)));replace HB:=kbs HB hb;(try clear hb);(try clear hb2);(try clear hk);(try clear hi);(try clear ho0);obtain⟨Ao5,co5,eo5⟩:=Kd.V_slice ab.out;subst eo5))
  go_ret
  exact⟨_,Z1,Z2,khu HB.out⟩
 rw[if_neg c3]at H
 have ae:((aa.length:Int)==0)=false:=beq_eq_false_iff_ne.mpr c3
 have af:((aa.length:Int) != 0)=true:=bne_iff_ne.mpr c3
 have ah:¬(aa=[]):=fun h_=>c3 (by rw[h_];rfl)
 replace H:=Option.bind_eq_some_iff.mp H
 obtain⟨ac,A60,H⟩:=H
 replace H:(some ac)=some r:=H
 have A6:=Aside0.mk A60
 clear A60
 obtain rfl:=Option.some.inj H
 go_enter Tryz.func179,Tryz.ntmps179
 go_wp2_with (first|((with_reducible refine gate_callee (f:=96) rfl ?_);refine kgl (some 4) rfl rfl Tryz.func96 #[.slice A0 l0.length c0] rfl ?_;(with_reducible refine(nat_trim.calls k (fun k_=>k_<w.heap.size) _ _ l0 aa _ ?side1 A2.out).mono ?_);(case side1=>exact Kd.V_mk HC0.out (Kd.F_below (Kd.C_F (Kd.heap_int .u64) HR0.out) (khu HB.out)));rintro e w7 ⟨ag,rfl,ho0,hb⟩;refine⟨_,rfl,?_⟩;have ab:=Aside0.mk (Kd.V_lower (Kd.V_mono (ok':=fun k_=>True) ho0 (fun k_ hk_=>trivial)) (below_size (khu HB.out)));replace HB:=kbs HB hb;(try clear hb);(try clear hb2);(try clear hk);(try clear hi);(try clear ho0);obtain⟨Ao8,co8,eo8⟩:=Kd.V_slice ab.out;subst eo8)|((with_reducible refine gate_callee (f:=91) rfl ?_);refine kgl (some 9) rfl rfl Tryz.func91 #[.slice Ao8 aa.length co8] rfl ?_;(with_reducible refine(api_Nat_uint64.calls _ _ aa ac _ ?side1 ?side2 A6.out).mono ?_);(case side1=>repeat (first|exact(Kd.V_reads' ab.out).2.2|(with_reducible refine Kd.C_alloc ?_ _)|(with_reducible refine Kd.C_drewN ?_ _)|(with_reducible refine Kd.C_drew ?_)));(case side2=>exact(Kd.V_reads' ab.out).2.1);rintro e w9 ⟨ai,rfl,ho0,hb⟩;refine⟨_,rfl,?_⟩;replace ab:=Aside0.mk (Kd.V_elder' (kvu ab.out) (Kd.R_base ho0) hb);have ad:=Aside0.mk (Kd.R_lower ho0 (below_size (khu HB.out)));replace HB:=kbs HB hb;(try clear hb);(try clear hb2);(try clear hk);(try clear hi);(try clear ho0)))
 go_ret
 exact⟨_,Z1,kru ad.out,khu HB.out⟩
def nat_out.f (k:Nat) (l0:List Int):Option (List Int×Int):=(nat_long.f k (([l0]:List (List Int)))).bind fun t682=>(if t682=true then(some (([]:List Int),5)) else((nat_own.f k l0).bind fun t683=>(some (t683,0))))
theorem nat_out.mono:∀a0 k,LeO (nat_out.f k a0) (nat_out.f (k+1) a0):=by
 intro a0 k
 unfold nat_out.f
 repeat' first
   | (with_reducible exact nat_long.mono _ _)
   | (with_reducible exact nat_own.mono _ _)
   | (with_reducible exact LeO.refl _)
   | (with_reducible exact LeO.none _)
   | (with_reducible refine LeO.ite ?_ ?_)
   | (with_reducible refine LeO.bind ?_ (fun _=>?_))
   | exact nat_long.mono _ _
   | exact nat_own.mono _ _
   | exact LeO.none _
   | refine LeO.ite ?_ ?_
   | refine LeO.bind ?_ (fun _=>?_)
theorem nat_out.calls (k:Nat) (P0_:Nat→Prop) (A0:Option Addr) (c0:Nat) (l0:List Int) (r1:List Int) (r2:Int) (w:World) (hs0:Kd.V (Kd.int .u64) 48 w w.heap.size (fun k_=>P0_ k_) (.slice A0 l0.length c0) l0) (h:nat_out.f k l0=some (r1,r2)) :
  Calls Tryz.prog 165 #[.slice A0 l0.length c0] w fun e w'=>∃v0_:Value,e=.returned (.tuple #[v0_,.int .i64 r2])∧Kd.R (Kd.int .u64) 48 w' w.heap.size (fun k_=>(w.heap.size≤k_)) v0_ r1∧Below w.heap.size w w':=by
 have HO0:=Aside0.mk (show Kd.V (Kd.int .u64) 48 w w.heap.size (fun k_=>(P0_ k_∨w.heap.size≤k_)) (.slice A0 l0.length c0) l0 from Kd.V_mono hs0 (fun k_ hk=>.inl hk))
 have HB:=Aside0.mk (Below.refl w.heap.size w)
 have H:((nat_long.f k (([l0]:List (List Int)))).bind fun ac=>(if ac=true then(some (([]:List Int),5)) else((nat_own.f k l0).bind fun aa=>(some (aa,0)))))=some (r1,r2):=h
 clear h
 obtain⟨af,ab⟩:∃y_:List (List Int),y_=(([l0]:List (List Int))):=⟨_,rfl⟩
 replace H:((nat_long.f k af).bind fun ac=>(if ac=true then(some (([]:List Int),5)) else((nat_own.f k l0).bind fun aa=>(some (aa,0)))))=some (r1,r2):=by first|(rw[ab];with_reducible exact H)|(have H2_:=(Option.bind_some _ _).symm.trans H;rw[ab];with_reducible exact H2_)|(have H2_:=(Option.bind_some _ _).symm.trans H;with_reducible exact H2_)|with_reducible exact H|(rw[ab];exact H)|exact H
 have ae:=Aside0.mk ab
 clear ab
 replace H:=Option.bind_eq_some_iff.mp H
 obtain⟨ac,A20,H⟩:=H
 replace H:(if ac=true then(some (([]:List Int),5)) else((nat_own.f k l0).bind fun aa=>(some (aa,0))))=some (r1,r2):=H
 have A2:=Aside0.mk A20
 clear A20
 by_cases c3:ac=true
 ·subst c3
  have H1:(some (([]:List Int),5))=some (r1,r2):=by rw[if_pos rfl]at H;exact H
  clear H
  have H:=H1
  clear H1
  simp only[Option.some.injEq,Prod.mk.injEq]at H
  obtain⟨rfl,rfl⟩:=H
  go_enter Tryz.func165,Tryz.ntmps165
  go_wp2_with (first|(refine gd 5 rfl ?_;refine Kd.N_lit (Kd.slice 48 (Kd.int .u64)) _ 26 ?hg (N':=5) ?hd (xs:=([l0]:List (List Int))) (inner:=[.slice A0 l0.length c0]) (ok:=(fun k_=>(P0_ k_∨w.heap.size≤k_))) (okp:=(fun k_=>(P0_ k_∨w.heap.size≤k_))) ?hr ?hp (fun _ hk=>hk) ((show ∀k_,w.heap.size≤k_→(fun k_=>(P0_ k_∨w.heap.size≤k_)) k_ from fun k_ hk=>(.inr (Nat.le_trans (below_size (khu HB.out)) hk))) _ (Nat.le_refl _)) (Below.refl _ _) (Nat.le_refl _) F1 ?_;(case hd=>rfl);(case hg=>rfl);(case hr=>first|(go_simp;done)|(go_simp;rfl));(case hp=>exact(Reps.one (show Kd.FK (Kd.slice 48 (Kd.int .u64)) _ _ l0 [.slice A0 l0.length c0] from(Kd.FK_slice_mk (Kd.V_reads' (Kd.V_mono (ok':=(fun k_=>(P0_ k_∨w.heap.size≤k_))) (HO0.out) (fun k_ hk=>hk))).2.1 (Kd.V_F (Kd.V_mono (ok':=(fun k_=>(P0_ k_∨w.heap.size≤k_))) (HO0.out) (fun k_ hk=>hk))))) (Reps.none _ _)));intro ah w4 ho5 hb hg_ hnew_;clear hg_ hnew_;(first|rw[←ae.out]at ho5|(simp only[Int.reduceToNat]at ho5;rw[←ae.out]at ho5));replace HO0:=Aside0.mk (Kd.V_elder' (kvu HO0.out) (Kd.N_base ho5) hb);have HO681:=Aside0.mk (Kd.N_lower ho5 (below_size (khu HB.out)));replace HB:=kbs HB hb;clear hb ho5;obtain⟨Ao6,co6,eo6⟩:=Kd.N_slice HO681.out;subst eo6)|((with_reducible refine gate_callee (f:=164) rfl ?_);refine kgl (some 6) rfl rfl Tryz.func164 #[.slice Ao6 af.length co6] rfl ?_;(with_reducible refine(nat_long.calls k _ _ af true _ ?side1 ?side2 A2.out).mono ?_);(case side1=>repeat (first|exact(Kd.N_reads' HO681.out).2.2|(with_reducible refine Kd.C_alloc ?_ _)|(with_reducible refine Kd.C_drewN ?_ _)|(with_reducible refine Kd.C_drew ?_)));(case side2=>exact(Kd.N_reads' HO681.out).2.1);rintro e w7 ⟨rfl,hb⟩;refine⟨_,rfl,?_⟩;replace HO0:=kvb HO0 hb;replace HO681:=Aside0.mk (Kd.N_below Y4 hb);replace HB:=kbs HB hb;(try clear hb);(try clear hb2);(try clear hk);(try clear hi)))
  go_ret2
  exact⟨_,Z1,Z2,khu HB.out⟩
 replace c3:=Bool.eq_false_iff.mpr c3
 subst c3
 have H1:((nat_own.f k l0).bind fun aa=>(some (aa,0)))=some (r1,r2):=by rw[if_neg (show ¬(false=true) by decide)]at H;exact H
 clear H
 have H:=H1
 clear H1
 replace H:=Option.bind_eq_some_iff.mp H
 obtain⟨aa,A80,H⟩:=H
 replace H:(some (aa,0))=some (r1,r2):=H
 have A8:=Aside0.mk A80
 clear A80
 simp only[Option.some.injEq,Prod.mk.injEq]at H
 obtain⟨rfl,rfl⟩:=H
 go_enter Tryz.func165,Tryz.ntmps165
 go_wp2_with (first|(refine gd 5 rfl ?_;refine Kd.N_lit (Kd.slice 48 (Kd.int .u64)) _ 26 ?hg (N':=5) ?hd (xs:=([l0]:List (List Int))) (inner:=[.slice A0 l0.length c0]) (ok:=(fun k_=>(P0_ k_∨w.heap.size≤k_))) (okp:=(fun k_=>(P0_ k_∨w.heap.size≤k_))) ?hr ?hp (fun _ hk=>hk) ((show ∀k_,w.heap.size≤k_→(fun k_=>(P0_ k_∨w.heap.size≤k_)) k_ from fun k_ hk=>(.inr (Nat.le_trans (below_size (khu HB.out)) hk))) _ (Nat.le_refl _)) (Below.refl _ _) (Nat.le_refl _) F1 ?_;(case hd=>rfl);(case hg=>rfl);(case hr=>first|(go_simp;done)|(go_simp;rfl));(case hp=>exact(Reps.one (show Kd.FK (Kd.slice 48 (Kd.int .u64)) _ _ l0 [.slice A0 l0.length c0] from(Kd.FK_slice_mk (Kd.V_reads' (Kd.V_mono (ok':=(fun k_=>(P0_ k_∨w.heap.size≤k_))) (HO0.out) (fun k_ hk=>hk))).2.1 (Kd.V_F (Kd.V_mono (ok':=(fun k_=>(P0_ k_∨w.heap.size≤k_))) (HO0.out) (fun k_ hk=>hk))))) (Reps.none _ _)));intro ah w9 ad hb hg_ hnew_;clear hg_ hnew_;(first|rw[←ae.out]at ad|(simp only[Int.reduceToNat]at ad;rw[←ae.out]at ad));replace HO0:=Aside0.mk (Kd.V_elder' (kvu HO0.out) (Kd.N_base ad) hb);have HO681:=Aside0.mk (Kd.N_lower ad (below_size (khu HB.out)));replace HB:=kbs HB hb;clear hb ad;obtain⟨ai,aj,ak⟩:=Kd.N_slice HO681.out;subst ak)|((with_reducible refine gate_callee (f:=164) rfl ?_);refine kgl (some 6) rfl rfl Tryz.func164 #[.slice ai af.length aj] rfl ?_;(with_reducible refine(nat_long.calls k _ _ af false _ ?side1 ?side2 A2.out).mono ?_);(case side1=>repeat (first|exact(Kd.N_reads' HO681.out).2.2|(with_reducible refine Kd.C_alloc ?_ _)|(with_reducible refine Kd.C_drewN ?_ _)|(with_reducible refine Kd.C_drew ?_)));(case side2=>exact(Kd.N_reads' HO681.out).2.1);rintro e w12 ⟨rfl,hb⟩;refine⟨_,rfl,?_⟩;replace HO0:=kvb HO0 hb;replace HO681:=Aside0.mk (Kd.N_below Y4 hb);replace HB:=kbs HB hb;(try clear hb);(try clear hb2);(try clear hk);(try clear hi))|((with_reducible refine gate_callee (f:=179) rfl ?_);refine kgl (some 8) rfl rfl Tryz.func179 #[.slice A0 l0.length c0] rfl ?_;(with_reducible refine(nat_own.calls k _ _ l0 aa _ ?side1 ?side2 A8.out).mono ?_);(case side1=>repeat (first|exact(Kd.V_reads' HO0.out).2.2|(with_reducible refine Kd.C_alloc ?_ _)|(with_reducible refine Kd.C_drewN ?_ _)|(with_reducible refine Kd.C_drew ?_)));(case side2=>exact(Kd.V_reads' HO0.out).2.1);rintro e w13 ⟨al,rfl,ho0,hb⟩;refine⟨_,rfl,?_⟩;replace HO0:=Aside0.mk (Kd.V_elder' (kvu HO0.out) (Kd.R_base ho0) hb);replace HO681:=Aside0.mk (Kd.N_elder' Y4 (Kd.R_base ho0) hb);have ag:=Aside0.mk (Kd.R_lower (Kd.R_newM (M:=fun k_=>(w.heap.size≤k_)) ho0 (below_size (khu HB.out)) (fun k_ h_=>h_)) (below_size (khu HB.out)));replace HB:=kbs HB hb;(try clear hb);(try clear hb2);(try clear hk);(try clear hi);(try clear ho0)))
 go_ret2
 exact⟨_,Z1,by(with_reducible repeat (first|apply Kd.R_alloc|apply Kd.R_drewN|apply Kd.R_drew));exact Kd.R_mono ag.out (fun _ hk=>hk.1),khu HB.out⟩
def nat_shl.l0:Nat→Int→List Int→Int→List Int→Int→Int→Option (List Int)
 | 0,_,_,_,_,_,_=>none
 | k+1,x1,x5,x6,x13,x14,x15=>if x15<x14 then(if 0≤x15 then(if x15<(x13.length:Int) then(if 0≤x1 then(if x5.length<17592186044416 then(if 0≤(IntKind.u64.wrap (64-x1)) then(nat_shl.l0 k x1 (x5++[Go.bits .or .u64 (shl .u64 (rd x13 x15) x1) x6]) (shr .u64 (rd x13 x15) (IntKind.u64.wrap (64-x1))) x13 x14 (wrap64 (x15+1))) else(none)) else(none)) else(none)) else(none)) else(none)) else(if x5.length<17592186044416 then(some (x5++[x6])) else(none))
def nat_shl.f (k:Nat) (l0:List Int) (a1:Int):Option (List Int):=if 0≤(wrap64 ((l0.length:Int)+1)) then(if(wrap64 ((l0.length:Int)+1):Int).toNat≤35184372088832 then(nat_shl.l0 k a1 (([]:List Int)) 0 l0 (l0.length:Int) 0) else(none)) else(none)
theorem nat_shl.mono_l:∀k,(∀y0 y1 y2 y3 y4 y5,LeO (nat_shl.l0 k y0 y1 y2 y3 y4 y5) (nat_shl.l0 (k+1) y0 y1 y2 y3 y4 y5))
 | 0=>fun _ _ _ _ _ _ r h=>by simp[nat_shl.l0]at h
 | k+1=>by
  have ih0:=nat_shl.mono_l k
  intro y0 y1 y2 y3 y4 y5
  unfold nat_shl.l0
  repeat' first
  | (with_reducible exact ih0 _ _ _ _ _ _)
  | (with_reducible exact LeO.refl _)
  | (with_reducible exact LeO.none _)
  | (with_reducible refine LeO.ite ?_ ?_)
  | (with_reducible refine LeO.bind ?_ (fun _=>?_))
  | exact ih0 _ _ _ _ _ _
  | exact LeO.none _
  | refine LeO.ite ?_ ?_
  | refine LeO.bind ?_ (fun _=>?_)
theorem nat_shl.mono:∀a0 a1 k,LeO (nat_shl.f k a0 a1) (nat_shl.f (k+1) a0 a1):=by
 intro a0 a1 k
 have ih0:=nat_shl.mono_l k
 unfold nat_shl.f
 repeat' first
   | (with_reducible exact ih0 _ _ _ _ _ _)
   | (with_reducible exact LeO.refl _)
   | (with_reducible exact LeO.none _)
   | (with_reducible refine LeO.ite ?_ ?_)
   | (with_reducible refine LeO.bind ?_ (fun _=>?_))
   | exact ih0 _ _ _ _ _ _
   | exact LeO.none _
   | refine LeO.ite ?_ ?_
   | refine LeO.bind ?_ (fun _=>?_)
theorem nat_shl.calls (k:Nat) (A0:Option Addr) (c0:Nat) (l0:List Int) (a1:Int) (r:List Int) (w:World) (hr0:Kd.C (Kd.int .u64) w A0 l0.length l0) (hc0:l0.length≤c0) (h:nat_shl.f k l0 a1=some r) :
  Calls Tryz.prog 166 #[.slice A0 l0.length c0,.int .u64 a1] w fun e w'=>∃v0_:Value,e=.returned (v0_)∧Kd.R (Kd.int .u64) 48 w' w.heap.size (fun _=>True) v0_ r∧Below w.heap.size w w':=by
 have HR0:=Aside0.mk hr0
 have HC0:=Aside0.mk hc0
 clear hr0 hc0
 have HB:=Aside0.mk (Below.refl w.heap.size w)
 have H:(if 0≤(wrap64 ((l0.length:Int)+1)) then(if(wrap64 ((l0.length:Int)+1):Int).toNat≤35184372088832 then(nat_shl.l0 k a1 (([]:List Int)) 0 l0 (l0.length:Int) 0) else(none)) else(none))=some r:=h
 clear h
 obtain⟨ji3,hji3⟩:∃j_:Int,(wrap64 ((l0.length:Int)+1))=j_:=⟨_,rfl⟩
 replace H:(if 0≤(ji3) then(if(ji3:Int).toNat≤35184372088832 then(nat_shl.l0 k a1 (([]:List Int)) 0 l0 (l0.length:Int) 0) else(none)) else(none))=some r:=by first|(rw[hji3]at H;exact H)|(simp only[hji3]at H ⊢;exact H)
 have aN:(IntKind.i64.wrap ((l0.length:Int)+1))=ji3:=(i64_w _).trans hji3
 by_cases c4:0≤(ji3)
 ·rw [if_pos c4]at H
  have aC:=eq_true c4
  have aD:decide (0≤(ji3))=true:=decide_eq_true c4
  clear c4
  by_cases c5:(ji3:Int).toNat≤35184372088832
  ·rw [if_pos c5]at H
   have aE:=eq_true c5
   have aG:decide ((ji3:Int).toNat≤35184372088832)=true:=decide_eq_true c5
   clear c5
   obtain⟨ar,ae⟩:∃y_:List Int,y_=(([]:List Int)):=⟨_,rfl⟩
   replace H:(nat_shl.l0 k a1 ar 0 l0 (l0.length:Int) 0)=some r:=by first|(rw[ae];with_reducible exact H)|(have H2_:=(Option.bind_some _ _).symm.trans H;rw[ae];with_reducible exact H2_)|(have H2_:=(Option.bind_some _ _).symm.trans H;with_reducible exact H2_)|with_reducible exact H|(rw[ae];exact H)|exact H
   have ap:=Aside0.mk ae
   clear ae
   have H':=Aside0.mk H
   clear H
   go_enter Tryz.func166,Tryz.ntmps166
   go_wp2_with (first|(refine gd 12 rfl ?_;refine Kd.R_make0 (Kd.int .u64) _ 48 rfl (N:=12) rfl 26 _ _ rfl ji3 rfl rfl Tryz.underlying26 (.int .u64 0) 8 info48 rfl X0 Y0 0 (ok:=fun _=>True) (okp:=fun _=>True) rfl (fun _ hk=>hk) trivial (of_decide_eq_true ‹_›) (Nat.le_trans (Nat.mul_le_mul_right _ (of_decide_eq_true ‹_›:ji3.toNat≤35184372088832)) Y0) (Below.refl _ _) (Nat.le_refl _) ?_;intro aX w6 ho7 hb hg_ hnew_;clear hg_ hnew_;(first|rw[←ap.out]at ho7|(simp only[Int.reduceToNat]at ho7;rw[←ap.out]at ho7));have au:=Aside0.mk (Kd.R_lower ho7 (below_size (khu HB.out)));replace HB:=kbs HB hb;clear hb ho7))
   go_loopg [5,6,15] k (fun kq v5 v6 v15 w'=>∃(ab:List Int) (ac:Int) (aa:Int),v6=.int .u64 ac∧v15=.int .i64 aa∧Aside0 (nat_shl.l0 kq a1 ab ac l0 (l0.length:Int) aa=some r)∧Aside0 (kq≤k)∧Aside0 (Kd.R (Kd.int .u64) 48 w' w.heap.size (fun _=>True) v5 ab)∧Aside0 (Below w.heap.size w w'))
   case atStart=>exact⟨(ar),(0),(0),F0,F0,H',⟨Nat.le_refl _⟩,⟨kru au.out⟩,⟨khu HB.out⟩⟩
   case round=>
    clear H'
    try clear c1
    try clear p2
    try clear c4
    try clear aC
    try clear aD
    try clear c5
    try clear aE
    try clear aG
    try clear p6
    obtain⟨ab,ac,aa,rfl,rfl,HA,HK1,ak,HB⟩:=hrel
    cases gk with
    | zero=>exact absurd HA.out (by simp[nat_shl.l0])
    | succ k1=>
     have H:=HA.out
     clear HA
     simp only[nat_shl.l0]at H
     by_cases c8:aa<(l0.length:Int)
     ·rw [if_pos c8]at H
      have aH:decide (aa<(l0.length:Int))=true:=decide_eq_true c8
      clear c8
      by_cases c9:0≤aa
      ·rw [if_pos c9]at H
       have aY:decide (0≤aa)=true:=decide_eq_true c9
       clear c9
       by_cases c10:aa<(l0.length:Int)
       ·rw [if_pos c10]at H
        have aQ:decide (aa<(l0.length:Int))=true:=decide_eq_true c10
        clear c10
        by_cases c11:0≤a1
        ·rw[if_pos c11]at H
         have aR:=eq_true c11
         have aT:decide (0≤a1)=true:=decide_eq_true c11
         clear c11
         obtain⟨ai,hji12⟩:∃j_:Int,(shl .u64 (rd l0 aa) a1)=j_:=⟨_,rfl⟩
         replace H:(if ab.length<17592186044416 then(if 0≤(IntKind.u64.wrap (64-a1)) then(nat_shl.l0 k1 a1 (ab++[Go.bits .or .u64 (ai) ac]) (shr .u64 (rd l0 aa) (IntKind.u64.wrap (64-a1))) l0 (l0.length:Int) (wrap64 (aa+1))) else(none)) else(none))=some r:=by first|(rw[hji12]at H;exact H)|(simp only[hji12]at H ⊢;exact H)
         have hji12_:(IntKind.u64.wrap ((rd l0 aa)*2^min a1.toNat 64))=ai:=hji12
         have aK:a1≤64→(IntKind.u64.wrap ((rd l0 aa)*2^a1.toNat))=ai:=shl_small hji12
         by_cases c13:ab.length<17592186044416
         ·rw[if_pos c13]at H
          have av:=Aside0.mk c13
          clear c13
          obtain⟨al,af⟩:∃y_:List Int,y_=(ab++[Go.bits .or .u64 (ai) ac]):=⟨_,rfl⟩
          replace H:(if 0≤(IntKind.u64.wrap (64-a1)) then(nat_shl.l0 k1 a1 al (shr .u64 (rd l0 aa) (IntKind.u64.wrap (64-a1))) l0 (l0.length:Int) (wrap64 (aa+1))) else(none))=some r:=by first|(rw[af];with_reducible exact H)|(have H2_:=(Option.bind_some _ _).symm.trans H;rw[af];with_reducible exact H2_)|(have H2_:=(Option.bind_some _ _).symm.trans H;with_reducible exact H2_)|with_reducible exact H|(rw[af];exact H)|exact H
          have aw:=Aside0.mk af
          clear af
          obtain⟨ad,aq⟩:∃j_:Int,(IntKind.u64.wrap (64-a1))=j_:=⟨_,rfl⟩
          replace H:(if 0≤(ad) then(nat_shl.l0 k1 a1 al (shr .u64 (rd l0 aa) (ad)) l0 (l0.length:Int) (wrap64 (aa+1))) else(none))=some r:=by first|(rw[aq]at H;exact H)|(simp only[aq]at H ⊢;exact H)
          by_cases c15:0≤(ad)
          ·rw[if_pos c15]at H
           have aU:=eq_true c15
           have aV:decide (0≤(ad))=true:=decide_eq_true c15
           clear c15
           obtain⟨am,ag⟩:∃j_:Int,(shr .u64 (rd l0 aa) (ad))=j_:=⟨_,rfl⟩
           replace H:(nat_shl.l0 k1 a1 al am l0 (l0.length:Int) (wrap64 (aa+1)))=some r:=by first|(rw[ag]at H;exact H)|(simp only[ag]at H ⊢;exact H)
           have hji16_:((rd l0 aa)/2^min (ad).toNat 64)=am:=ag
           have aM:(ad)≤64→((rd l0 aa)/2^(ad).toNat)=am:=shr_small ag
           have H':=Aside0.mk H
           clear H
           have an:0≤(aa:Int):=of_decide_eq_true ‹_›
           have ao:aa<(l0.length:Int):=of_decide_eq_true ‹_›
           obtain⟨aW,aI,aj⟩:=Kd.at_int HR0.out aa an ao
           cases aI
           replace aj:=(HB.out.cell (World.block_lt_of_cell? w _ aj)).trans aj
           replace an:=eq_true an
           replace ao:=eq_true ao
           go_wp2_with (first|((with_reducible refine gate_builtin (b:=.append) (xs:=#[.tmp 19,.tmp 25]) rfl ?_);at_builtin;refine Kd.R_append (Kd.int .u64) (w0:=w) w.heap.size rfl (.tmp 19) (.tmp 25) 26 48 (.int .u64 0) 8 rfl Tryz.underlying26 info48 rfl X0 Y0 u5 ab (Go.bits .or .u64 (ai) ac) [.int .u64 (Go.bits .or .u64 (ai) ac)] (fun _=>True) (fun _=>False) rfl rfl ?aP (fun _ hk=>hk.elim) ?aF ?aO ?aB ?aS ?aL ?_;(case aP=>exact rfl);(case aB=>exact(khu HB.out));(case aF=>exact(fun _ _=>trivial));(case aO=>exact(kru ak.out));(case aS=>exact(below_size (khu HB.out)));(case aL=>have:=av.out;omega);intro aZ w17 ho hb hg hat;rw[←aw.out]at ho;replace HB:=Aside0.mk (hb);have ax:=Aside0.mk (ho);clear ak;clear ho hb hg hat))
           go_roundg k1
           case measure=>have:=HK1.out;omega
           case rel=>exact⟨(al),(am),(wrap64 (aa+1)),(by first|rfl|(simp;done)|(simp only[←ag]<;>(first|rfl|simp))|(simp[*];done)),F0,H',⟨V3⟩,⟨kru ax.out⟩,⟨khu HB.out⟩⟩
          rw[if_neg c15]at H
          exact absurd H F1
         rw[if_neg c13]at H
         exact absurd H F1
        rw[if_neg c11]at H
        exact absurd H F1
       rw[if_neg c10]at H
       exact absurd H F1
      rw[if_neg c9]at H
      exact absurd H F1
     rw[if_neg c8]at H
     have aH:decide (aa<(l0.length:Int))=false:=decide_eq_false c8
     clear c8
     by_cases c18:ab.length<17592186044416
     ·rw[if_pos c18]at H
      have ay:=Aside0.mk c18
      clear c18
      obtain⟨aJ,ah⟩:∃y_:List Int,y_=(ab++[ac]):=⟨_,rfl⟩
      replace H:(some aJ)=some r:=by first|(rw[ah];with_reducible exact H)|(have H2_:=(Option.bind_some _ _).symm.trans H;rw[ah];with_reducible exact H2_)|(have H2_:=(Option.bind_some _ _).symm.trans H;with_reducible exact H2_)|with_reducible exact H|(rw[ah];exact H)|exact H
      have az:=Aside0.mk ah
      clear ah
      obtain rfl:=Option.some.inj H
      go_wp2_with (first|((with_reducible refine gate_builtin (b:=.append) (xs:=#[.tmp 32,.tmp 34]) rfl ?_);at_builtin;refine Kd.R_append (Kd.int .u64) (w0:=w) w.heap.size rfl (.tmp 32) (.tmp 34) 26 48 (.int .u64 0) 8 rfl Tryz.underlying26 info48 rfl X0 Y0 u5 ab ac [.int .u64 ac] (fun _=>True) (fun _=>False) rfl rfl ?aP (fun _ hk=>hk.elim) ?aF ?aO ?aB ?aS ?aL ?_;(case aP=>exact rfl);(case aB=>exact(khu HB.out));(case aF=>exact(fun _ _=>trivial));(case aO=>exact(kru ak.out));(case aS=>exact(below_size (khu HB.out)));(case aL=>have:=ay.out;omega);intro bb w19 ho hb hg hat;rw[←az.out]at ho;replace HB:=Aside0.mk (hb);have aA:=Aside0.mk (ho);clear ak;clear ho hb hg hat))
      go_ret
      exact⟨_,U2,kru aA.out,khu HB.out⟩
     rw[if_neg c18]at H
     exact absurd H F1
  rw[if_neg c5]at H
  exact absurd H F1
 rw[if_neg c4]at H
 exact absurd H F1
end Go.Proofs.YtncomlmhagaajaaGreat.PBo
