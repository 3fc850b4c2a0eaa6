/- BitsMakes: THE STATEMENT of the second form: for every argument (together of bulk at most 1048576) the law's call returns true and each argument reads as it did. Conditions: none but the bulk. -/
import Derived.Test.YtncomlmhagaajaaGreatRows
import Derived.WalkKit
import Derived.ProofKit
import Derived.OpenShut
import Derived.Lib.SmallJoins
import Derived.Deep.DeepHandedRow
import Derived.Deep.DeepWitnessRowRef
import Derived.Lib.LaidTab
import Derived.LaidMore
import Derived.Below
import Derived.ChangeOld
import Derived.Deep.Slices
import Derived.Lay
import Derived.MakeChecks
import Derived.Test.YtncomlmhagaajaaGreatCm6
namespace Go.Proofs.YtncomlmhagaajaaGreat.bitsMakes
open Go Go.Joins Go.ChangeShapes Go.WideShapes Go.ChangeAt Go.RowKit Go.Proofs.YtncomlmhagaajaaGreatW.PrintWords Go.Proofs.YtncomlmhagaajaaGreatW.PrintLast Go.Proofs.YtncomlmhagaajaaGreatW.PrintMore
theorem own:ownKnob Tryz.prog.godebug=none:=by kernel_rfl
theorem laidOut:laidOutB Tryz.prog=true:=by kernel_rfl
set_option maxRecDepth 100000 in
theorem openBits {H:Type} {enc:TypeId×Value→H} {W:World} {base b0:Nat} {held:Bool} {v:Value} {d:DataW H} {p:List MemPlace} (hv:Value.okWide Tryz.prog W .any b0 28 v) (h:DataW.Trod enc Tryz.prog W base (fun _=>true) held 28 v d p) :
    ∃(b:Int) (A:Option Addr) (c:Nat) (l:List Int),v=.agg #[.int .i64 b,.slice A l.length c]∧Kd.C (Kd.int .u64) W A l.length l∧l.length≤c∧l.length≤Rows.uptoBulk d∧(Lit.int .i64 b).wf=true∧∀x∈l,(Lit.int .u64 x).wf=true:=by
  obtain⟨v0,v1,y0,y1,n,rfl,rfl,rfl,h0,h1⟩:=open_agg2 Tryz.underlying28 Y0 Y0 hv h
  obtain⟨b,hb,_,wb⟩:=DataW.trod_int Tryz.underlying3 h0
  have hb':v0=.int .i64 b:=by simpa using hb
  subst hb'
  rcases open_ints Tryz.underlying26 Tryz.underlying48 Y0 h1 with⟨hcs,_⟩|⟨x,l,c,zs,hcs,_,hl,hm,hlen,hx,hcell,hwf⟩
  · have e1:v1=.slice none 0 0:=by simpa using hcs
    subst e1
    exact⟨b,none,0,[],rfl,Kd.C_nil _ _,Nat.le_refl _,Nat.zero_le _,wb,fun x hx=>by cases hx⟩
  · have e1:v1=.slice (some x) l c:=by simpa using hcs
    subst e1
    have hzc:zs.length=c:=by simpa using hlen
    obtain⟨ll,hll,hr,hm2,hw2,hc2⟩:=ReadsInt.ofRowC (k:=.u64) (w:=W) (a:=some x) (len:=l) (cap:=c) (zs:=zs) (.inr ⟨x,rfl,hl,hm,hzc,hcell,hwf⟩)
    subst hll
    refine⟨b,some x,c,ll,rfl,Kd.C_of_reads (d:=(0:Int)) (h1:=fun _=>rfl) hr,hc2,?_,wb,hw2⟩
    have h1:=bulks.slice_le (H:=H) (lits .u64 (zs.take ll.length)) (lits .u64 (zs.drop ll.length))
    rw[hx]
    simp only[Rows.uptoBulk,Rows.uptoBulkAll]at h1 ⊢
    have h2:(lits (H:=H) .u64 (zs.take ll.length)).length=ll.length:=by simp[lits];omega
    rw[h2]at h1
    omega
set_option maxRecDepth 100000 in
theorem openInt {H:Type} {enc:TypeId×Value→H} {W:World} {base b0:Nat} {held:Bool} {v:Value} {d:DataW H} {p:List MemPlace} (hv:Value.okWide Tryz.prog W .any b0 43 v) (h:DataW.Trod enc Tryz.prog W base (fun _=>true) held 43 v d p) :
    ∃(b:Bool) (A:Option Addr) (c:Nat) (l:List Int),v=.agg #[.bool b,.slice A l.length c]∧Kd.C (Kd.int .u64) W A l.length l∧l.length≤c∧l.length≤Rows.uptoBulk d∧∀x∈l,(Lit.int .u64 x).wf=true:=by
  obtain⟨v0,v1,y0,y1,n,rfl,rfl,rfl,h0,h1⟩:=open_agg2 Tryz.underlying43 Y0 Y0 hv h
  obtain⟨b,hb,_⟩:=DataW.trod_bool Tryz.underlying4 h0
  have hb':v0=.bool b:=by simpa using hb
  subst hb'
  rcases open_ints Tryz.underlying26 Tryz.underlying48 Y0 h1 with⟨hcs,_⟩|⟨x,l,c,zs,hcs,_,hl,hm,hlen,hx,hcell,hwf⟩
  · have e1:v1=.slice none 0 0:=by simpa using hcs
    subst e1
    exact⟨b,none,0,[],rfl,Kd.C_nil _ _,Nat.le_refl _,Nat.zero_le _,fun x hx=>by cases hx⟩
  · have e1:v1=.slice (some x) l c:=by simpa using hcs
    subst e1
    have hzc:zs.length=c:=by simpa using hlen
    obtain⟨ll,hll,hr,hm2,hw2,hc2⟩:=ReadsInt.ofRowC (k:=.u64) (w:=W) (a:=some x) (len:=l) (cap:=c) (zs:=zs) (.inr ⟨x,rfl,hl,hm,hzc,hcell,hwf⟩)
    subst hll
    refine⟨b,some x,c,ll,rfl,Kd.C_of_reads (d:=(0:Int)) (h1:=fun _=>rfl) hr,hc2,?_,hw2⟩
    have h1:=bulks.slice_le (H:=H) (lits .u64 (zs.take ll.length)) (lits .u64 (zs.drop ll.length))
    rw[hx]
    simp only[Rows.uptoBulk,Rows.uptoBulkAll]at h1 ⊢
    have h2:(lits (H:=H) .u64 (zs.take ll.length)).length=ll.length:=by simp[lits];omega
    rw[h2]at h1
    omega
set_option maxRecDepth 100000 in
theorem contract (H:Type) (enc:TypeId×Value→H) (W:World) (base:Nat) (args:Array Value) (ds gs:List (DataW H)) (before:List MemPlace)
    (hval:∀(j:Nat) t v,Tryz.f9.params[j]? = some t→args[j]? = some v→Value.okWide Tryz.prog W .any base t v)
    (hW:DataW.Whole enc Tryz.prog Tryz.f9.params.toList Rows.bitsMakesSpec.vars false W args.toList ds gs before) (hk:Rows.uptoSmall H (ds++gs)=true) :
    Calls Tryz.prog 9 args W fun e W'=>∃v,e=.returned v∧Rows.bitsMakesSpec.post enc Tryz.prog Tryz.f9 false true false false W args v W':=by
  have hW':=hW
  obtain⟨p,q,hA0,hV,rfl,hfz,hnd⟩:=hW
  have hA:DataW.TrodAll enc Tryz.prog W 0 (fun _=>true) true Tryz.f9.params.toList args.toList ds p:=hA0
  rw[Tryz.params9]at hA hval
  obtain⟨v0,vs0,d0,ds0,p0,q0,hargs,rfl,rfl,h0,r0⟩:=trodAll_cons hA
  obtain⟨v1,vs1,d1,ds1,p1,q1,rfl,rfl,rfl,h1,r1⟩:=trodAll_cons r0
  obtain⟨v2,vs2,d2,ds2,p2,q2,rfl,rfl,rfl,h2,r2⟩:=trodAll_cons r1
  obtain⟨v3,vs3,d3,ds3,p3,q3,rfl,rfl,rfl,h3,r3⟩:=trodAll_cons r2
  obtain⟨rfl,rfl,rfl⟩:=trodAll_nil r3
  obtain rfl:args=#[v0,v1,v2,v3]:=by cases args;simp_all
  obtain⟨rfl,rfl⟩:=trodVars_none hV
  have hb:=bulks.bound hk
  simp only[List.append_nil,Rows.uptoBulkAll]at hb
  obtain⟨n0,rfl,rfl,rfl,wn0⟩:=open_int Tryz.underlying3 (hval 0 3 v0 rfl rfl) h0
  obtain⟨n1,rfl,rfl,rfl,wn1⟩:=open_int Tryz.underlying48 (hval 1 48 v1 rfl rfl) h1
  have k2:=h2
  have lt2:∀x∈p2,x.block<W.heap.size:=by obtain⟨m,hm⟩:=k2;exact DataW.trod_lt m _ _ _ hm
  obtain⟨b2,A2,c2,l2,rfl,hC2,hc2,hl2,hw2⟩:=openInt (hval 2 43 v2 rfl rfl) h2
  have k3:=h3
  have lt3:∀x∈p3,x.block<W.heap.size:=by obtain⟨m,hm⟩:=k3;exact DataW.trod_lt m _ _ _ hm
  obtain⟨b3,A3,c3,l3,rfl,hC3,hc3,hl3,wb3,hw3⟩:=openBits (hval 3 28 v3 rfl rfl) h3
  clear hA0
  simp only[List.append_nil]at hW'
  obtain⟨k,h⟩:=YtncomlmhagaajaaGreat.Pure.bitsMakes_pure n0 n1 wn1 b2 l2 Z0 hw2 b3 l3 Z0 hw3
  refine(PBo.tribunallaw09_BitsMakes.calls k n0 n1 b2 _ _ l2 b3 _ _ l3 true W hC2 hc2 hC3 hc3 h).mono fun e W' ⟨he,bel⟩=>?_
  subst he
  exact⟨_,rfl,_,_,_,[],_,[],hW',trodAll_mk1 (shut_bool Tryz.underlying4 _),(trodAll_cons_mk (shut_int Tryz.underlying3 wn0) (trodAll_cons_mk (shut_int Tryz.underlying48 wn1) (trodAll_cons_mk (Below.trod laidOut Y0 (of_decide_eq_true Y0) k2 bel lt2) (trodAll_cons_mk (Below.trod laidOut Y0 (of_decide_eq_true Y0) k3 bel lt3) trodAll_mk0)))),rfl,bel.frame _,fun h=>by cases h⟩
theorem laid_met (os:Os) (args:Array Value):laidMetH Tryz.prog Rows.bitsMakesUptoRow.laid ((World.laidAll Tryz.prog os Rows.bitsMakesUptoRow.laid).forCall (fun _ _=>0) ⟨#[],args,[]⟩).memory:=
  by
  rw[MakeChecks.laidMetH_plain _ _ _ Y0]
  exact laidMet_laidAll _ Y0 Y0
set_option maxRecDepth 100000 in
theorem reads (os:Os) {H:Type} (enc:TypeId×Value→H):∃x places,DataW.whole enc Tryz.prog ((World.laidAll Tryz.prog os Rows.bitsMakesUptoRow.laid).forCall (fun _ _=>0) ⟨#[],#[.int .i64 0,.int .u64 0,.agg #[.bool false,.slice none 0 0],.agg #[.int .i64 0,.slice none 0 0]],[]⟩).memory Tryz.f9.params.toList Rows.bitsMakesSpec.vars false #[Value.int .i64 0,Value.int .u64 0,Value.agg #[.bool false,.slice none 0 0],Value.agg #[.int .i64 0,.slice none 0 0]].toList 8=some (x,[],places)∧x=[.lit (.int .i64 0),.lit (.int .u64 0),.agg [.lit (.bool false),.nil],.agg [.lit (.int .i64 0),.nil]]:=
  ⟨_,[],Y0,rfl⟩
set_option maxRecDepth 100000 in
theorem lifted (os:Os) (started:os.Started) (H:Type) (enc:TypeId×Value→H) (F:Stop.Interp) :
    ReturnsInHanded {} Tryz.checked os 9 .any ((Rows.OpenSpec.upto Rows.bitsMakesSpec).preRow enc Tryz.prog Tryz.f9 Rows.bitsMakesUptoRow.domain false Rows.bitsMakesUptoRow.laid) (((Rows.OpenSpec.upto Rows.bitsMakesSpec).at F).post enc Tryz.prog Tryz.f9 false true false false):=by
  obtain⟨x,places,hx,rfl⟩:=reads os enc
  refine returnsInHanded_of_row (C:=Tryz.checked) (s:=Rows.OpenSpec.upto Rows.bitsMakesSpec) own started Y0 Tryz.func9
    (witness_row_atRef (enc:=enc) (C:=Tryz.checked) false (World.laidAll Tryz.prog os Rows.bitsMakesUptoRow.laid) #[.int .i64 0,.int .u64 0,.agg #[.bool false,.slice none 0 0],.agg #[.int .i64 0,.slice none 0 0]] (World.laidAll_os _ _ _) Y0 Y0 Y0
      (OpenSpec.preRow_of_cond 8 hx Y0 (fun k hk=>by cases hk;kernel_rfl) Y0 (laid_met os _))) ?_
  intro W base args ds gs before hval hW _ hcond _ hL _ _
  exact contract H enc W base args ds gs before hval hW (hcond _ rfl)
theorem said:Rows.BitsMakesUptoSaid:=
  OpenClaim.holds_of_cond 9 Tryz.f9 rfl rfl rfl rfl rfl rfl rfl ⟨rfl,rfl,rfl,rfl,rfl⟩ rfl rfl rfl rfl rfl Y0 Tryz.func9 Y0
    (of_decide_eq_true Y0) (by unfold Func.isWrapper;first|(rw[if_pos (by decide +kernel)];kernel_rfl)|(rw[if_neg (by decide +kernel)];exact⟨rfl,rfl⟩))
    (fun os started H enc _ F=>by rw[OpenClaim.pre_eq_preRow];exact lifted os started H enc F)
end Go.Proofs.YtncomlmhagaajaaGreat.bitsMakes
namespace Go.Proofs.YtncomlmhagaajaaGreat
open Go
theorem bitsMakes_holds:Rows.BitsMakesUptoSaid:=bitsMakes.said
end Go.Proofs.YtncomlmhagaajaaGreat
