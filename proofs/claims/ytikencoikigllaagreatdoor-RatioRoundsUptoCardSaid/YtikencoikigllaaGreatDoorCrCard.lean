/- RatioRounds: THE CARD of the second form: for every argument (together of bulk at most 1048576) the law's call returns true and each argument reads as it did. Conditions: the row's own (the three laid tables hold what the program's text gives them). -/
import Derived.Test.YtikencoikigllaaGreatDoorCards
import Derived.Test.YtikencoikigllaaGreatDoorTie
import Derived.WalkKit
import Derived.ProofKit
import Derived.OpenShut
import Derived.SevenTiedAt
import Derived.Lib.SmallJoins
import Derived.Deep.DeepHandedRow
import Derived.Deep.DeepWitnessRowRef
import Derived.Lib.LaidTab
import Derived.LaidMore
import Derived.Below
import Derived.ChangeOld
import Derived.Deep.Slices
import Derived.Test.YtikencoikigllaaGreatDoorCr6
namespace Go.Proofs.YtikencoikigllaaGreatDoor.ratioRounds
open Go Go.Joins Go.ChangeShapes Go.WideShapes Go.ChangeAt Go.RowKit Go.Proofs.YtikencoikigllaaGreatDoorW.PrintWords Go.Proofs.YtikencoikigllaaGreatDoorW.PrintLast Go.Proofs.YtikencoikigllaaGreatDoorW.PrintMore
theorem own:ownKnob Tryz.prog.godebug=none:=by kernel_rfl
theorem laidOut:laidOutB Tryz.prog=true:=by kernel_rfl
set_option maxRecDepth 100000 in
theorem openCells {H:Type} {enc:TypeId×Value→H} {W:World} {base n:Nat} {held:Bool} {cs:List Value} {y:DataW H×List MemPlace} (h:DataW.trod enc Tryz.prog W base (fun _=>true) held n 26 cs=some y) :
    ∃(x:PRy.S26) (A:Option Addr) (c:Nat),cs=[.bool x.f0,.slice A x.f1.length c]∧Kd.C (Kd.int .u64) W A x.f1.length x.f1∧x.f1.length≤c∧x.f1.length≤Rows.uptoBulk y.1∧∀z∈x.f1,(Lit.int .u64 z).wf=true:=by
  obtain⟨y0,y1,m,rfl,hcl,h0,h1⟩:=trod_struct2 Tryz.underlying26 h
  rw[show Tryz.prog.cellsOf 26=2 from by kernel_rfl]at hcl
  obtain⟨v0,v1,rfl⟩:∃v0 v1,cs=[v0,v1]:=by
    match cs,hcl with
    | [v0,v1],_=>exact⟨v0,v1,rfl⟩
  clear hcl
  have h0':DataW.trod enc Tryz.prog W base (fun _=>true) held m 4 [v0]=some y0:=by
    simpa [show Tryz.prog.cellsOf 4=1 from by kernel_rfl] using h0
  have h1':DataW.trod enc Tryz.prog W base (fun _=>true) held m 24 [v1]=some y1:=by
    simpa [show Tryz.prog.cellsOf 24=1 from by kernel_rfl] using h1
  obtain⟨b,hb,_⟩:=DataW.trod_bool Tryz.underlying4 h0'
  have hb':v0=.bool b:=by simpa using hb
  subst hb'
  rcases open_ints Tryz.underlying24 Tryz.underlying72 (by kernel_rfl) h1' with⟨hcs,_⟩|⟨x,l,c,zs,hcs,_,hl,hm,hlen,hx,hcell,hwf⟩
  · have e1:v1=.slice none 0 0:=by simpa using hcs
    subst e1
    exact⟨⟨b,[]⟩,none,0,rfl,Kd.C_nil _ _,Nat.le_refl _,Nat.zero_le _,fun x hx=>by cases hx⟩
  · have e1:v1=.slice (some x) l c:=by simpa using hcs
    subst e1
    have hzc:zs.length=c:=by simpa using hlen
    obtain⟨ll,hll,hr,hm2,hw2,hc2⟩:=ReadsInt.ofRowC (k:=.u64) (w:=W) (a:=some x) (len:=l) (cap:=c) (zs:=zs) (.inr ⟨x,rfl,hl,hm,hzc,hcell,hwf⟩)
    subst hll
    refine⟨⟨b,ll⟩,some x,c,rfl,Kd.C_of_reads (d:=(0:Int)) (h1:=fun _=>rfl) hr,hc2,?_,hw2⟩
    have h2:=bulks.slice_le (H:=H) (lits .u64 (zs.take ll.length)) (lits .u64 (zs.drop ll.length))
    rw[hx]
    simp only[Rows.uptoBulk,Rows.uptoBulkAll]at h2 ⊢
    have h3:(lits (H:=H) .u64 (zs.take ll.length)).length=ll.length:=by simp[lits];omega
    rw[h3]at h2
    omega
set_option maxRecDepth 100000 in
theorem openRat {H:Type} {enc:TypeId×Value→H} {W:World} {base b0:Nat} {held:Bool} {v:Value} {d:DataW H} {p:List MemPlace} (hv:Value.okWide Tryz.prog W .any b0 39 v) (h:DataW.Trod enc Tryz.prog W base (fun _=>true) held 39 v d p) :
    ∃(b:Bool) (A:Option Addr) (c:Nat) (l:List Int) (B:Option Addr) (e:Nat) (m:List Int),v=.agg #[.bool b,.slice A l.length c,.slice B m.length e]∧Kd.C (Kd.int .u64) W A l.length l∧l.length≤c∧Kd.C (Kd.int .u64) W B m.length m∧m.length≤e∧l.length≤Rows.uptoBulk d∧m.length≤Rows.uptoBulk d∧(∀x∈l,(Lit.int .u64 x).wf=true)∧∀x∈m,(Lit.int .u64 x).wf=true:=by
  obtain⟨cs,rfl,hsz⟩:=okWide_struct Tryz.underlying39 hv
  obtain⟨c0,c1,c2,rfl⟩:=array3 (hsz.trans (show Tryz.prog.cellsOf 39=3 from by kernel_rfl))
  obtain⟨fuel,hf⟩:=h
  obtain⟨y0,y1,n,hx,_,h0,h1⟩:=trod_struct2 Tryz.underlying39 hf
  simp only[Prod.mk.injEq]at hx
  obtain⟨rfl,rfl⟩:=hx
  have h0':DataW.trod enc Tryz.prog W base (fun _=>true) held n 26 [c0,c1]=some y0:=by
    simpa [Value.cells,show Tryz.prog.cellsOf 26=2 from by kernel_rfl] using h0
  have h1':DataW.trod enc Tryz.prog W base (fun _=>true) held n 24 [c2]=some y1:=by
    simpa [Value.cells,show Tryz.prog.cellsOf 24=1 from by kernel_rfl] using h1
  obtain⟨x,A1,e1,hcs,hC1,hc1,hl1,hw1⟩:=openCells h0'
  obtain⟨rfl,rfl⟩:c0=.bool x.f0∧c1=.slice A1 x.f1.length e1:=by simpa using hcs
  have hbd:Rows.uptoBulk y0.1≤Rows.uptoBulk (DataW.agg [y0.1,y1.1])∧Rows.uptoBulk y1.1≤Rows.uptoBulk (DataW.agg [y0.1,y1.1]):=by
    simp only[Rows.uptoBulk,Rows.uptoBulkAll]
    omega
  rcases open_ints Tryz.underlying24 Tryz.underlying72 (by kernel_rfl) h1' with⟨hcs2,_⟩|⟨x2,l,c,zs,hcs2,_,hl,hm,hlen,hx2,hcell,hwf⟩
  · have e2:c2=.slice none 0 0:=by simpa using hcs2
    subst e2
    exact⟨x.f0,A1,e1,x.f1,none,0,[],rfl,hC1,hc1,Kd.C_nil _ _,Nat.le_refl _,Nat.le_trans hl1 hbd.1,Nat.zero_le _,hw1,fun x hx=>by cases hx⟩
  · have e2:c2=.slice (some x2) l c:=by simpa using hcs2
    subst e2
    have hzc:zs.length=c:=by simpa using hlen
    obtain⟨ll,hll,hr,hm2,hw2,hc2⟩:=ReadsInt.ofRowC (k:=.u64) (w:=W) (a:=some x2) (len:=l) (cap:=c) (zs:=zs) (.inr ⟨x2,rfl,hl,hm,hzc,hcell,hwf⟩)
    subst hll
    refine⟨x.f0,A1,e1,x.f1,some x2,c,ll,rfl,hC1,hc1,Kd.C_of_reads (d:=(0:Int)) (h1:=fun _=>rfl) hr,hc2,Nat.le_trans hl1 hbd.1,Nat.le_trans ?_ hbd.2,hw1,hw2⟩
    have h2:=bulks.slice_le (H:=H) (lits .u64 (zs.take ll.length)) (lits .u64 (zs.drop ll.length))
    rw[hx2]
    simp only[Rows.uptoBulk]at h2 ⊢
    have h3:(lits (H:=H) .u64 (zs.take ll.length)).length=ll.length:=by simp[lits];omega
    rw[h3]at h2
    omega
set_option maxRecDepth 100000 in
theorem contract (H:Type) (enc:TypeId×Value→H) (W:World) (base:Nat) (args:Array Value) (ds gs:List (DataW H)) (before:List MemPlace)
    (hval:∀(j:Nat) t v,Tryz.f5.params[j]? = some t→args[j]? = some v→Value.okWide Tryz.prog W .any base t v)
    (hW:DataW.Whole enc Tryz.prog Tryz.f5.params.toList Rows.ratioRoundsSpec.vars false W args.toList ds gs before) (hk:Rows.uptoSmall H (ds++gs)=true) :
    Calls Tryz.prog 5 args W fun e W'=>∃v,e=.returned v∧Rows.ratioRoundsSpec.post enc Tryz.prog Tryz.f5 false true false false W args v W':=by
  have hW':=hW
  obtain⟨p,q,hA0,hV,rfl,hfz,hnd⟩:=hW
  have hA:DataW.TrodAll enc Tryz.prog W 0 (fun _=>true) true Tryz.f5.params.toList args.toList ds p:=hA0
  rw[Tryz.params5]at hA hval
  obtain⟨v0,vs0,d0,ds0,p0,q0,hargs,rfl,rfl,h0,r0⟩:=trodAll_cons hA
  obtain⟨rfl,rfl,rfl⟩:=trodAll_nil r0
  obtain rfl:args=#[v0]:=by cases args;simp_all
  obtain⟨rfl,rfl⟩:=trodVars_none hV
  have hb:=bulks.bound hk
  simp only[List.append_nil,Rows.uptoBulkAll]at hb
  have k0:=h0
  have lt0:∀x∈p0,x.block<W.heap.size:=by obtain⟨m,hm⟩:=k0;exact DataW.trod_lt m _ _ _ hm
  obtain⟨b0,A0,c0,l0,B0,e0,m0,rfl,hC0,hc0,hD0,hd0,hl0,hm0,hw0,hx0⟩:=openRat (hval 0 39 v0 rfl rfl) h0
  clear hA0
  simp only[List.append_nil]at hW'
  obtain⟨k,h⟩:=YtikencoikigllaaGreatDoor.Pure.ratioRounds_pure b0 l0 m0 (by omega) (by omega) hw0 hx0
  refine(PRy.tribunallaw03_RatioRounds.calls k b0 _ _ l0 _ _ m0 true W hC0 hc0 hD0 hd0 h).mono fun e W' ⟨he,bel⟩=>?_
  subst he
  exact⟨_,rfl,_,_,_,[],_,[],hW',trodAll_mk1 (shut_bool Tryz.underlying4 _),(trodAll_cons_mk (Below.trod laidOut (by kernel_rfl) (of_decide_eq_true (by kernel_rfl)) k0 bel lt0) trodAll_mk0),rfl,bel.frame _,fun h=>by cases h⟩
theorem laid_met (os:Os) (args:Array Value):laidMetH Tryz.prog Rows.ratioRoundsUptoRow.laid ((World.doorLaid Tryz.prog 400 os).forCall (fun _ _=>0) ⟨#[],args,[]⟩).memory:=
  laidMetH_of_parts3 (fuel:=8) (laidMet_of_run' 8 (by kernel_rfl) (by kernel_rfl)) (by kernel_rfl) (by kernel_rfl)
set_option maxRecDepth 100000 in
theorem reads (os:Os) {H:Type} (enc:TypeId×Value→H):∃x places,DataW.whole enc Tryz.prog ((World.doorLaid Tryz.prog 400 os).forCall (fun _ _=>0) ⟨#[],#[.agg #[.bool false,.slice none 0 0,.slice none 0 0]],[]⟩).memory Tryz.f5.params.toList Rows.ratioRoundsSpec.vars false #[Value.agg #[.bool false,.slice none 0 0,.slice none 0 0]].toList 8=some (x,[],places)∧x=[.agg [.agg [.lit (.bool false),.nil],.nil]]:=
  ⟨_,[],by kernel_rfl,rfl⟩
set_option maxRecDepth 100000 in
theorem lifted (os:Os) (started:os.Started) (H:Type) (enc:TypeId×Value→H) (F:Stop.Interp) :
    ReturnsInHanded {} Tryz.checked os 5 .any ((Rows.OpenSpec.upto Rows.ratioRoundsSpec).preRow enc Tryz.prog Tryz.f5 Rows.ratioRoundsUptoRow.domain false Rows.ratioRoundsUptoRow.laid) (((Rows.OpenSpec.upto Rows.ratioRoundsSpec).at F).post enc Tryz.prog Tryz.f5 false true false false):=by
  obtain⟨x,places,hx,rfl⟩:=reads os enc
  refine returnsInHanded_of_row (C:=Tryz.checked) (s:=Rows.OpenSpec.upto Rows.ratioRoundsSpec) own started (by kernel_rfl) Tryz.func5
    (witness_row_atRef (enc:=enc) (C:=Tryz.checked) false (World.doorLaid Tryz.prog 400 os) #[.agg #[.bool false,.slice none 0 0,.slice none 0 0]] rfl (by kernel_rfl) (by kernel_rfl) (by kernel_rfl)
      (OpenSpec.preRow_of_cond 8 hx (by kernel_rfl) (fun k hk=>by cases hk;kernel_rfl) (by kernel_rfl) (laid_met os _))) ?_
  intro W base args ds gs before hval hW _ hcond _ hL _ _
  exact contract H enc W base args ds gs before hval hW (hcond _ rfl)
theorem said:Rows.RatioRoundsUptoSaid:=
  OpenClaim.holds_of_cond 5 Tryz.f5 rfl rfl rfl rfl rfl rfl rfl ⟨rfl,rfl,rfl,rfl,rfl⟩ rfl rfl rfl rfl rfl (by kernel_rfl) Tryz.func5 (by kernel_rfl)
    (of_decide_eq_true (by kernel_rfl)) (by unfold Func.isWrapper;first|(rw[if_pos (by decide +kernel)];kernel_rfl)|(rw[if_neg (by decide +kernel)];exact⟨rfl,rfl⟩))
    (fun os started H enc _ F=>by rw[OpenClaim.pre_eq_preRow];exact lifted os started H enc F)
theorem plain (f:FuncId) (fn:Func) (hf:Tryz.pinned.checked.prog.funcNamed "tribunal/tribunallaw03.RatioRounds" = some f) (hfn:Tryz.pinned.checked.prog.funcs[f]? = some fn) :
    true=Tryz.pinned.checked.prog.looks []∧∀(j:Nat) t,fn.params[j]? = some t→Tryz.pinned.checked.prog.wantsStandIn t=false:=by
  obtain rfl:f=5:=Option.some.inj ((show Tryz.prog.funcNamed "tribunal/tribunallaw03.RatioRounds" = some 5 by kernel_rfl).symm.trans hf) |>.symm
  obtain rfl:fn=Tryz.f5:=(Option.some.inj (Tryz.func5.symm.trans hfn)).symm
  refine⟨by kernel_rfl,fun j t ht=>?_⟩
  rw[Tryz.params5]at ht
  have ht':=Array.mem_of_getElem? ht
  obtain rfl:t=39:=by simpa using ht'
  all_goals exact(show Tryz.prog.wantsStandIn _=false by kernel_rfl)
end Go.Proofs.YtikencoikigllaaGreatDoor.ratioRounds
namespace Go.Proofs.YtikencoikigllaaGreatDoor
open Go
theorem ratioRounds_card:Rows.RatioRoundsUptoCardSaid:=
  Claim7.holds_tied_plain_at .later [] _ _ _ _ ratioRounds.said (fun _ h=>by cases h) (by kernel_rfl) (fun _ h=>by cases h) ratioRoundsUpto_row_tie rfl ⟨rfl,rfl⟩ (by kernel_rfl) rfl ratioRounds.plain (by kernel_rfl)
end Go.Proofs.YtikencoikigllaaGreatDoor
