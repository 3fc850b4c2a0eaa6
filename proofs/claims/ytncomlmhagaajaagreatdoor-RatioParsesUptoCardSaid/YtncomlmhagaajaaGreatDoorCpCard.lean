/- RatioParses: THE CARD of the second form: for every argument (together of bulk at most 1048576) the law's call returns true and each argument reads as it did. Conditions: the row's own (the three laid tables hold what the program's text gives them). -/
import Derived.Test.YtncomlmhagaajaaGreatDoorCards
import Derived.Test.YtncomlmhagaajaaGreatDoorTie
import Derived.WalkKit
import Derived.ProofKit
import Derived.OpenShut
import Derived.SevenTiedAt
import Derived.Lib.SmallJoins
import Derived.Deep.DeepHandedRow
import Derived.Deep.DeepWitnessRowRef
import Derived.Lib.LaidTab
import Derived.LaidMore
import Derived.Below
import Derived.ChangeOld
import Derived.Deep.Slices
import Derived.ShutString
import Derived.Lay
import Derived.MakeChecks
import Derived.Test.YtncomlmhagaajaaGreatDoorCp6
namespace Go.Proofs.YtncomlmhagaajaaGreatDoor.ratioParses
open Go Go.Joins Go.ChangeShapes Go.WideShapes Go.ChangeAt Go.RowKit Go.Proofs.YtncomlmhagaajaaGreatDoorW.PrintWords Go.Proofs.YtncomlmhagaajaaGreatDoorW.PrintLast Go.Proofs.YtncomlmhagaajaaGreatDoorW.PrintMore
theorem own:ownKnob Tryz.prog.godebug=none:=by kernel_rfl
set_option maxRecDepth 100000 in
theorem contract (H:Type) (enc:TypeId×Value→H) (W:World) (base:Nat) (args:Array Value) (ds gs:List (DataW H)) (before:List MemPlace)
    (hval:∀(j:Nat) t v,Tryz.f8.params[j]? = some t→args[j]? = some v→Value.okWide Tryz.prog W .any base t v)
    (hW:DataW.Whole enc Tryz.prog Tryz.f8.params.toList Rows.ratioParsesSpec.vars false W args.toList ds gs before) (hk:Rows.uptoSmall H (ds++gs)=true) :
    Calls Tryz.prog 8 args W fun e W'=>∃v,e=.returned v∧Rows.ratioParsesSpec.post enc Tryz.prog Tryz.f8 false true false false W args v W':=by
  have hW':=hW
  obtain⟨p,q,hA0,hV,rfl,hfz,hnd⟩:=hW
  have hA:DataW.TrodAll enc Tryz.prog W 0 (fun _=>true) true Tryz.f8.params.toList args.toList ds p:=hA0
  rw[Tryz.params8]at hA hval
  obtain⟨v0,vs0,d0,ds0,p0,q0,hargs,rfl,rfl,h0,r0⟩:=trodAll_cons hA
  obtain⟨rfl,rfl,rfl⟩:=trodAll_nil r0
  obtain rfl:args=#[v0]:=by cases args;simp_all
  obtain⟨rfl,rfl⟩:=trodVars_none hV
  have hb:=bulks.bound hk
  simp only[List.append_nil,Rows.uptoBulkAll]at hb
  obtain⟨a0,rfl,rfl,rfl,y0⟩:=Go.ChangeMaps.open_string Tryz.underlying9 (hval 0 9 v0 rfl rfl) h0
  clear hA0
  simp only[List.append_nil]at hW'
  obtain⟨k,h⟩:=YtncomlmhagaajaaGreatDoor.Pure.ratioParses_pure a0
  refine(PRp.tribunallaw03_RatioParses.calls k a0 true W h).mono fun e W' ⟨he,bel⟩=>?_
  subst he
  exact⟨_,rfl,_,_,_,[],_,[],hW',trodAll_mk1 (shut_bool Tryz.underlying4 _),(trodAll_cons_mk (Go.ChangeMaps.shut_string Tryz.underlying9 y0) trodAll_mk0),rfl,bel.frame _,fun h=>by cases h⟩
theorem laid_met (os:Os) (args:Array Value):laidMetH Tryz.prog Rows.ratioParsesUptoRow.laid ((World.laidAll Tryz.prog os Rows.ratioParsesUptoRow.laid).forCall (fun _ _=>0) ⟨#[],args,[]⟩).memory:=
  by
  rw[MakeChecks.laidMetH_plain _ _ _ X0]
  exact laidMet_laidAll _ X0 X0
set_option maxRecDepth 100000 in
theorem reads (os:Os) {H:Type} (enc:TypeId×Value→H):∃x places,DataW.whole enc Tryz.prog ((World.laidAll Tryz.prog os Rows.ratioParsesUptoRow.laid).forCall (fun _ _=>0) ⟨#[],#[.string ByteArray.empty],[]⟩).memory Tryz.f8.params.toList Rows.ratioParsesSpec.vars false #[Value.string ByteArray.empty].toList 8=some (x,[],places)∧x=[.lit (.string [])]:=
  ⟨_,[],X0,rfl⟩
set_option maxRecDepth 100000 in
theorem lifted (os:Os) (started:os.Started) (H:Type) (enc:TypeId×Value→H) (F:Stop.Interp) :
    ReturnsInHanded {} Tryz.checked os 8 .any ((Rows.OpenSpec.upto Rows.ratioParsesSpec).preRow enc Tryz.prog Tryz.f8 Rows.ratioParsesUptoRow.domain false Rows.ratioParsesUptoRow.laid) (((Rows.OpenSpec.upto Rows.ratioParsesSpec).at F).post enc Tryz.prog Tryz.f8 false true false false):=by
  obtain⟨x,places,hx,rfl⟩:=reads os enc
  refine returnsInHanded_of_row (C:=Tryz.checked) (s:=Rows.OpenSpec.upto Rows.ratioParsesSpec) own started X0 Tryz.func8
    (witness_row_atRef (enc:=enc) (C:=Tryz.checked) false (World.laidAll Tryz.prog os Rows.ratioParsesUptoRow.laid) #[.string ByteArray.empty] (World.laidAll_os _ _ _) X0 X0 X0
      (OpenSpec.preRow_of_cond 8 hx X0 (fun k hk=>by cases hk;kernel_rfl) X0 (laid_met os _))) ?_
  intro W base args ds gs before hval hW _ hcond _ hL _ _
  exact contract H enc W base args ds gs before hval hW (hcond _ rfl)
theorem said:Rows.RatioParsesUptoSaid:=
  OpenClaim.holds_of_cond 8 Tryz.f8 rfl rfl rfl rfl rfl rfl rfl ⟨rfl,rfl,rfl,rfl,rfl⟩ rfl rfl rfl rfl rfl X0 Tryz.func8 X0
    (of_decide_eq_true X0) (by unfold Func.isWrapper;first|(rw[if_pos (by decide +kernel)];kernel_rfl)|(rw[if_neg (by decide +kernel)];exact⟨rfl,rfl⟩))
    (fun os started H enc _ F=>by rw[OpenClaim.pre_eq_preRow];exact lifted os started H enc F)
theorem plain (f:FuncId) (fn:Func) (hf:Tryz.pinned.checked.prog.funcNamed "tribunal/tribunallaw03.RatioParses" = some f) (hfn:Tryz.pinned.checked.prog.funcs[f]? = some fn) :
    true=Tryz.pinned.checked.prog.looks []∧∀(j:Nat) t,fn.params[j]? = some t→Tryz.pinned.checked.prog.wantsStandIn t=false:=by
  obtain rfl:f=8:=Option.some.inj ((show Tryz.prog.funcNamed "tribunal/tribunallaw03.RatioParses" = some 8 by kernel_rfl).symm.trans hf) |>.symm
  obtain rfl:fn=Tryz.f8:=(Option.some.inj (Tryz.func8.symm.trans hfn)).symm
  refine⟨X0,fun j t ht=>?_⟩
  rw[Tryz.params8]at ht
  have ht':=Array.mem_of_getElem? ht
  obtain rfl:t=9:=by simpa using ht'
  all_goals exact(show Tryz.prog.wantsStandIn _=false by kernel_rfl)
end Go.Proofs.YtncomlmhagaajaaGreatDoor.ratioParses
namespace Go.Proofs.YtncomlmhagaajaaGreatDoor
open Go
theorem ratioParses_card:Rows.RatioParsesUptoCardSaid:=
  Claim7.holds_tied_plain_at .later [] _ _ _ _ ratioParses.said (fun _ h=>by cases h) X0 (fun _ h=>by cases h) ratioParsesUpto_row_tie rfl ⟨rfl,rfl⟩ X0 rfl ratioParses.plain X0
end Go.Proofs.YtncomlmhagaajaaGreatDoor
