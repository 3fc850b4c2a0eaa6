/- BitsOrders: THE STATEMENT of the second form: for every argument (together of bulk at most 1048576) the law's call returns true and each argument reads as it did. Conditions: none but the bulk. -/
import Derived.Test.YtncomlmhagaajaaGreatRows
import Derived.WalkKit
import Derived.ProofKit
import Derived.OpenShut
import Derived.Lib.SmallJoins
import Derived.Deep.DeepHandedRow
import Derived.Deep.DeepWitnessRowRef
import Derived.Lib.LaidTab
import Derived.LaidMore
import Derived.Below
import Derived.ChangeOld
import Derived.Deep.Slices
import Derived.Lay
import Derived.MakeChecks
import Derived.Test.YtncomlmhagaajaaGreatCo5
namespace Go.Proofs.YtncomlmhagaajaaGreat.bitsOrders
open Go Go.Joins Go.ChangeShapes Go.WideShapes Go.ChangeAt Go.RowKit Go.Proofs.YtncomlmhagaajaaGreatW.PrintWords Go.Proofs.YtncomlmhagaajaaGreatW.PrintLast Go.Proofs.YtncomlmhagaajaaGreatW.PrintMore
theorem own:ownKnob Tryz.prog.godebug=none:=by kernel_rfl
theorem laidOut:laidOutB Tryz.prog=true:=by kernel_rfl
set_option maxRecDepth 100000 in
theorem openBits {H:Type} {enc:TypeId×Value→H} {W:World} {base b0:Nat} {held:Bool} {v:Value} {d:DataW H} {p:List MemPlace} (hv:Value.okWide Tryz.prog W .any b0 28 v) (h:DataW.Trod enc Tryz.prog W base (fun _=>true) held 28 v d p) :
    ∃(b:Int) (A:Option Addr) (c:Nat) (l:List Int),v=.agg #[.int .i64 b,.slice A l.length c]∧Kd.C (Kd.int .u64) W A l.length l∧l.length≤c∧l.length≤Rows.uptoBulk d∧(Lit.int .i64 b).wf=true∧∀x∈l,(Lit.int .u64 x).wf=true:=by
  obtain⟨v0,v1,y0,y1,n,rfl,rfl,rfl,h0,h1⟩:=open_agg2 Tryz.underlying28 Z0 Z0 hv h
  obtain⟨b,hb,_,wb⟩:=DataW.trod_int Tryz.underlying3 h0
  have hb':v0=.int .i64 b:=by simpa using hb
  subst hb'
  rcases open_ints Tryz.underlying26 Tryz.underlying48 Z0 h1 with⟨hcs,_⟩|⟨x,l,c,zs,hcs,_,hl,hm,hlen,hx,hcell,hwf⟩
  · have e1:v1=.slice none 0 0:=by simpa using hcs
    subst e1
    exact⟨b,none,0,[],rfl,Kd.C_nil _ _,Nat.le_refl _,Nat.zero_le _,wb,fun x hx=>by cases hx⟩
  · have e1:v1=.slice (some x) l c:=by simpa using hcs
    subst e1
    have hzc:zs.length=c:=by simpa using hlen
    obtain⟨ll,hll,hr,hm2,hw2,hc2⟩:=ReadsInt.ofRowC (k:=.u64) (w:=W) (a:=some x) (len:=l) (cap:=c) (zs:=zs) (.inr ⟨x,rfl,hl,hm,hzc,hcell,hwf⟩)
    subst hll
    refine⟨b,some x,c,ll,rfl,Kd.C_of_reads (d:=(0:Int)) (h1:=fun _=>rfl) hr,hc2,?_,wb,hw2⟩
    have h1:=bulks.slice_le (H:=H) (lits .u64 (zs.take ll.length)) (lits .u64 (zs.drop ll.length))
    rw[hx]
    simp only[Rows.uptoBulk,Rows.uptoBulkAll]at h1 ⊢
    have h2:(lits (H:=H) .u64 (zs.take ll.length)).length=ll.length:=by simp[lits];omega
    rw[h2]at h1
    omega
set_option maxRecDepth 100000 in
theorem contract (H:Type) (enc:TypeId×Value→H) (W:World) (base:Nat) (args:Array Value) (ds gs:List (DataW H)) (before:List MemPlace)
    (hval:∀(j:Nat) t v,Tryz.f7.params[j]? = some t→args[j]? = some v→Value.okWide Tryz.prog W .any base t v)
    (hW:DataW.Whole enc Tryz.prog Tryz.f7.params.toList Rows.bitsOrdersSpec.vars false W args.toList ds gs before) (hk:Rows.uptoSmall H (ds++gs)=true) :
    Calls Tryz.prog 7 args W fun e W'=>∃v,e=.returned v∧Rows.bitsOrdersSpec.post enc Tryz.prog Tryz.f7 false true false false W args v W':=by
  have hW':=hW
  obtain⟨p,q,hA0,hV,rfl,hfz,hnd⟩:=hW
  have hA:DataW.TrodAll enc Tryz.prog W 0 (fun _=>true) true Tryz.f7.params.toList args.toList ds p:=hA0
  rw[Tryz.params7]at hA hval
  obtain⟨v0,vs0,d0,ds0,p0,q0,hargs,rfl,rfl,h0,r0⟩:=trodAll_cons hA
  obtain⟨v1,vs1,d1,ds1,p1,q1,rfl,rfl,rfl,h1,r1⟩:=trodAll_cons r0
  obtain⟨rfl,rfl,rfl⟩:=trodAll_nil r1
  obtain rfl:args=#[v0,v1]:=by cases args;simp_all
  obtain⟨rfl,rfl⟩:=trodVars_none hV
  have hb:=bulks.bound hk
  simp only[List.append_nil,Rows.uptoBulkAll]at hb
  have k0:=h0
  have lt0:∀x∈p0,x.block<W.heap.size:=by obtain⟨m,hm⟩:=k0;exact DataW.trod_lt m _ _ _ hm
  obtain⟨b0,A0,c0,l0,rfl,hC0,hc0,hl0,wb0,hw0⟩:=openBits (hval 0 28 v0 rfl rfl) h0
  have k1:=h1
  have lt1:∀x∈p1,x.block<W.heap.size:=by obtain⟨m,hm⟩:=k1;exact DataW.trod_lt m _ _ _ hm
  obtain⟨b1,A1,c1,l1,rfl,hC1,hc1,hl1,wb1,hw1⟩:=openBits (hval 1 28 v1 rfl rfl) h1
  clear hA0
  simp only[List.append_nil]at hW'
  obtain⟨k,h⟩:=YtncomlmhagaajaaGreat.Pure.bitsOrders_pure b0 l0 Y0 hw0 b1 l1 Y0 hw1
  refine(PBo.tribunallaw09_BitsOrders.callsC k b0 _ _ l0 b1 _ _ l1 true W hC0 hc0 hC1 hc1 h).mono fun e W' ⟨he,bel⟩=>?_
  subst he
  exact⟨_,rfl,_,_,_,[],_,[],hW',trodAll_mk1 (shut_bool Tryz.underlying4 _),(trodAll_cons_mk (Below.trod laidOut Z0 (of_decide_eq_true Z0) k0 bel lt0) (trodAll_cons_mk (Below.trod laidOut Z0 (of_decide_eq_true Z0) k1 bel lt1) trodAll_mk0)),rfl,bel.frame _,fun h=>by cases h⟩
theorem laid_met (os:Os) (args:Array Value):laidMetH Tryz.prog Rows.bitsOrdersUptoRow.laid ((World.laidAll Tryz.prog os Rows.bitsOrdersUptoRow.laid).forCall (fun _ _=>0) ⟨#[],args,[]⟩).memory:=
  by
  rw[MakeChecks.laidMetH_plain _ _ _ Z0]
  exact laidMet_laidAll _ Z0 Z0
set_option maxRecDepth 100000 in
theorem reads (os:Os) {H:Type} (enc:TypeId×Value→H):∃x places,DataW.whole enc Tryz.prog ((World.laidAll Tryz.prog os Rows.bitsOrdersUptoRow.laid).forCall (fun _ _=>0) ⟨#[],#[.agg #[.int .i64 0,.slice none 0 0],.agg #[.int .i64 0,.slice none 0 0]],[]⟩).memory Tryz.f7.params.toList Rows.bitsOrdersSpec.vars false #[Value.agg #[.int .i64 0,.slice none 0 0],Value.agg #[.int .i64 0,.slice none 0 0]].toList 8=some (x,[],places)∧x=[.agg [.lit (.int .i64 0),.nil],.agg [.lit (.int .i64 0),.nil]]:=
  ⟨_,[],Z0,rfl⟩
set_option maxRecDepth 100000 in
theorem lifted (os:Os) (started:os.Started) (H:Type) (enc:TypeId×Value→H) (F:Stop.Interp) :
    ReturnsInHanded {} Tryz.checked os 7 .any ((Rows.OpenSpec.upto Rows.bitsOrdersSpec).preRow enc Tryz.prog Tryz.f7 Rows.bitsOrdersUptoRow.domain false Rows.bitsOrdersUptoRow.laid) (((Rows.OpenSpec.upto Rows.bitsOrdersSpec).at F).post enc Tryz.prog Tryz.f7 false true false false):=by
  obtain⟨x,places,hx,rfl⟩:=reads os enc
  refine returnsInHanded_of_row (C:=Tryz.checked) (s:=Rows.OpenSpec.upto Rows.bitsOrdersSpec) own started Z0 Tryz.func7
    (witness_row_atRef (enc:=enc) (C:=Tryz.checked) false (World.laidAll Tryz.prog os Rows.bitsOrdersUptoRow.laid) #[.agg #[.int .i64 0,.slice none 0 0],.agg #[.int .i64 0,.slice none 0 0]] (World.laidAll_os _ _ _) Z0 Z0 Z0
      (OpenSpec.preRow_of_cond 8 hx Z0 (fun k hk=>by cases hk;kernel_rfl) Z0 (laid_met os _))) ?_
  intro W base args ds gs before hval hW _ hcond _ hL _ _
  exact contract H enc W base args ds gs before hval hW (hcond _ rfl)
theorem said:Rows.BitsOrdersUptoSaid:=
  OpenClaim.holds_of_cond 7 Tryz.f7 rfl rfl rfl rfl rfl rfl rfl ⟨rfl,rfl,rfl,rfl,rfl⟩ rfl rfl rfl rfl rfl Z0 Tryz.func7 Z0
    (of_decide_eq_true Z0) (by unfold Func.isWrapper;first|(rw[if_pos (by decide +kernel)];kernel_rfl)|(rw[if_neg (by decide +kernel)];exact⟨rfl,rfl⟩))
    (fun os started H enc _ F=>by rw[OpenClaim.pre_eq_preRow];exact lifted os started H enc F)
end Go.Proofs.YtncomlmhagaajaaGreat.bitsOrders
namespace Go.Proofs.YtncomlmhagaajaaGreat
open Go
theorem bitsOrders_holds:Rows.BitsOrdersUptoSaid:=bitsOrders.said
end Go.Proofs.YtncomlmhagaajaaGreat
