/- WholeBack: THE CARD of the second form: for every argument (together of bulk at most 1048576) the law's call returns true and each argument reads as it did. Conditions: the row's own (the three laid tables hold what the program's text gives them). -/
import Derived.Test.YtikencoikigllaaGreatDoorCards
import Derived.Test.YtikencoikigllaaGreatDoorTie
import Derived.WalkKit
import Derived.ProofKit
import Derived.OpenShut
import Derived.SevenTiedAt
import Derived.Lib.SmallJoins
import Derived.Deep.DeepHandedRow
import Derived.Deep.DeepWitnessRowRef
import Derived.Lib.LaidTab
import Derived.LaidMore
import Derived.Below
import Derived.ChangeOld
import Derived.Deep.Slices
import Derived.Lay
import Derived.MakeChecks
import Derived.Stop.LaidErr
import Derived.MakeChecks
import Derived.Test.YtikencoikigllaaGreatDoorCt3
namespace Go.Proofs.YtikencoikigllaaGreatDoor.wholeBack
open Go Go.Joins Go.ChangeShapes Go.WideShapes Go.ChangeAt Go.RowKit Go.Proofs.YtikencoikigllaaGreatDoorW.PrintWords Go.Proofs.YtikencoikigllaaGreatDoorW.PrintLast Go.Proofs.YtikencoikigllaaGreatDoorW.PrintMore
theorem own : ownKnob Tryz.prog.godebug = none := by kernel_rfl
theorem laidOut : laidOutB Tryz.prog = true := by kernel_rfl
set_option maxRecDepth 100000 in
theorem openInt {H : Type} {enc : TypeId × Value → H} {W : World} {base b0 : Nat} {held : Bool} {v : Value} {d : DataW H} {p : List MemPlace} (hv : Value.okWide Tryz.prog W .any b0 26 v) (h : DataW.Trod enc Tryz.prog W base (fun _ => true) held 26 v d p) :
    ∃ (b : Bool) (A : Option Addr) (c : Nat) (l : List Int), v = .agg #[.bool b, .slice A l.length c] ∧ Kd.C (Kd.int .u64) W A l.length l ∧ l.length ≤ c ∧ l.length ≤ Rows.uptoBulk d ∧ ∀ x ∈ l, (Lit.int .u64 x).wf = true := by
  obtain ⟨v0, v1, y0, y1, n, rfl, rfl, rfl, h0, h1⟩ := open_agg2 Tryz.underlying26 (by kernel_rfl) (by kernel_rfl) hv h
  obtain ⟨b, hb, _⟩ := DataW.trod_bool Tryz.underlying4 h0
  have hb' : v0 = .bool b := by simpa using hb
  subst hb'
  rcases open_ints Tryz.underlying24 Tryz.underlying72 (by kernel_rfl) h1 with ⟨hcs, _⟩ | ⟨x, l, c, zs, hcs, _, hl, hm, hlen, hx, hcell, hwf⟩
  · have e1 : v1 = .slice none 0 0 := by simpa using hcs
    subst e1
    exact ⟨b, none, 0, [], rfl, Kd.C_nil _ _, Nat.le_refl _, Nat.zero_le _, fun x hx => by cases hx⟩
  · have e1 : v1 = .slice (some x) l c := by simpa using hcs
    subst e1
    have hzc : zs.length = c := by simpa using hlen
    obtain ⟨ll, hll, hr, hm2, hw2, hc2⟩ := ReadsInt.ofRowC (k := .u64) (w := W) (a := some x) (len := l) (cap := c) (zs := zs) (.inr ⟨x, rfl, hl, hm, hzc, hcell, hwf⟩)
    subst hll
    refine ⟨b, some x, c, ll, rfl, Kd.C_of_reads (d := (0 : Int)) (h1 := fun _ => rfl) hr, hc2, ?_, hw2⟩
    have h1 := bulks.slice_le (H := H) (lits .u64 (zs.take ll.length)) (lits .u64 (zs.drop ll.length))
    rw [hx]
    simp only [Rows.uptoBulk, Rows.uptoBulkAll] at h1 ⊢
    have h2 : (lits (H := H) .u64 (zs.take ll.length)).length = ll.length := by simp [lits]; omega
    rw [h2] at h1
    omega
set_option maxRecDepth 100000 in
theorem contract (H : Type) (enc : TypeId × Value → H) (W : World) (base : Nat) (args : Array Value) (ds gs : List (DataW H)) (before : List MemPlace)
    (hval : ∀ (j : Nat) t v, Tryz.f4.params[j]? = some t → args[j]? = some v → Value.okWide Tryz.prog W .any base t v)
    (hW : DataW.Whole enc Tryz.prog Tryz.f4.params.toList Rows.wholeBackSpec.vars false W args.toList ds gs before) (hk : Rows.uptoSmall H (ds ++ gs) = true) (htab : Mine.Tb W) :
    Calls Tryz.prog 4 args W fun e W' => ∃ v, e = .returned v ∧ Rows.wholeBackSpec.post enc Tryz.prog Tryz.f4 false true false false W args v W' := by
  have hW' := hW
  obtain ⟨p, q, hA0, hV, rfl, hfz, hnd⟩ := hW
  have hA : DataW.TrodAll enc Tryz.prog W 0 (fun _ => true) true Tryz.f4.params.toList args.toList ds p := hA0
  rw [Tryz.params4] at hA hval
  obtain ⟨v0, vs0, d0, ds0, p0, q0, hargs, rfl, rfl, h0, r0⟩ := trodAll_cons hA
  obtain ⟨v1, vs1, d1, ds1, p1, q1, rfl, rfl, rfl, h1, r1⟩ := trodAll_cons r0
  obtain ⟨rfl, rfl, rfl⟩ := trodAll_nil r1
  obtain rfl : args = #[v0, v1] := by cases args; simp_all
  obtain ⟨rfl, rfl⟩ := trodVars_none hV
  have hb := bulks.bound hk
  simp only [List.append_nil, Rows.uptoBulkAll] at hb
  have k0 := h0
  have lt0 : ∀ x ∈ p0, x.block < W.heap.size := by obtain ⟨m, hm⟩ := k0; exact DataW.trod_lt m _ _ _ hm
  obtain ⟨b0, A0, c0, l0, rfl, hC0, hc0, hl0, hw0⟩ := openInt (hval 0 26 v0 rfl rfl) h0
  have k1 := h1
  have lt1 : ∀ x ∈ p1, x.block < W.heap.size := by obtain ⟨m, hm⟩ := k1; exact DataW.trod_lt m _ _ _ hm
  obtain ⟨b1, A1, c1, l1, rfl, hC1, hc1, hl1, hw1⟩ := openInt (hval 1 26 v1 rfl rfl) h1
  clear hA0
  simp only [List.append_nil] at hW'
  obtain ⟨k, h⟩ := YtikencoikigllaaGreatDoor.Pure.wholeBack_pure b0 l0 (by omega) hw0 b1 l1 (by omega) hw1
  refine (PRk.tribunallaw02_WholeBack.calls k b0 _ _ l0 b1 _ _ l1 true W hC0 hc0 hC1 hc1 h htab).mono fun e W' ⟨he, bel⟩ => ?_
  subst he
  exact ⟨_, rfl, _, _, _, [], _, [], hW', trodAll_mk1 (shut_bool Tryz.underlying4 _), (trodAll_cons_mk (Below.trod laidOut (by kernel_rfl) (of_decide_eq_true (by kernel_rfl)) k0 bel lt0) (trodAll_cons_mk (Below.trod laidOut (by kernel_rfl) (of_decide_eq_true (by kernel_rfl)) k1 bel lt1) trodAll_mk0)), rfl, bel.frame _, fun h => by cases h⟩
set_option maxRecDepth 100000 in
theorem tab {W : World} (h : laidMetH Tryz.prog Rows.wholeBackUptoRow.laid W) : Mine.Tb W := by
  have h1 : laidMet Tryz.prog Rows.wholeBackUptoRow.laid W := (MakeChecks.laidMetH_plain _ _ _ (by kernel_rfl)) ▸ h
  have h2 : laidMet Tryz.prog (("math/bits.deBruijn32tab", Rows.laid_math_bits_deBruijn32tab) :: ("math/bits.deBruijn64tab", Rows.laid_math_bits_deBruijn64tab) :: ("internal/strconv.uint64pow10", Lib.tabData .u64 Lib.pow10Tab) :: ("unicode/utf8.acceptRanges", Rows.laid_unicode_utf8_acceptRanges) :: ("strconv.ErrRange", Rows.laid_strconv_ErrRange) :: ("strconv.ErrSyntax", Rows.laid_strconv_ErrSyntax) :: ("unicode/utf8.first", Rows.laid_unicode_utf8_first) :: []) W := h1
  exact Mine.Tb.of (Lib.tabIs_of_head (g := 4) (t := 282) (e := 72) (n := 20) (by kernel_rfl) (by kernel_rfl) (by kernel_rfl) (by kernel_rfl) (by kernel_rfl) (by kernel_rfl) (laidMet.tail (laidMet.tail h2)))
theorem laid_met (os : Os) (args : Array Value) : laidMetH Tryz.prog Rows.wholeBackUptoRow.laid ((World.laidAll Tryz.prog os Rows.wholeBackUptoRow.laid).forCall (fun _ _ => 0) ⟨#[], args, []⟩).memory :=
  by
  rw [MakeChecks.laidMetH_plain _ _ _ (by kernel_rfl)]
  exact laidMet_laidAll _ (by kernel_rfl) (by kernel_rfl)
set_option maxRecDepth 100000 in
theorem reads (os : Os) {H : Type} (enc : TypeId × Value → H) : ∃ x places, DataW.whole enc Tryz.prog ((World.laidAll Tryz.prog os Rows.wholeBackUptoRow.laid).forCall (fun _ _ => 0) ⟨#[], #[.agg #[.bool false, .slice none 0 0], .agg #[.bool false, .slice none 0 0]], []⟩).memory Tryz.f4.params.toList Rows.wholeBackSpec.vars false #[Value.agg #[.bool false, .slice none 0 0], Value.agg #[.bool false, .slice none 0 0]].toList 8 = some (x, [], places) ∧ x = [.agg [.lit (.bool false), .nil], .agg [.lit (.bool false), .nil]] :=
  ⟨_, [], by kernel_rfl, rfl⟩
set_option maxRecDepth 100000 in
theorem lifted (os : Os) (started : os.Started) (H : Type) (enc : TypeId × Value → H) (F : Stop.Interp) :
    ReturnsInHanded {} Tryz.checked os 4 .any ((Rows.OpenSpec.upto Rows.wholeBackSpec).preRow enc Tryz.prog Tryz.f4 Rows.wholeBackUptoRow.domain false Rows.wholeBackUptoRow.laid) (((Rows.OpenSpec.upto Rows.wholeBackSpec).at F).post enc Tryz.prog Tryz.f4 false true false false) := by
  obtain ⟨x, places, hx, rfl⟩ := reads os enc
  refine returnsInHanded_of_row (C := Tryz.checked) (s := Rows.OpenSpec.upto Rows.wholeBackSpec) own started (by kernel_rfl) Tryz.func4
    (witness_row_atRef (enc := enc) (C := Tryz.checked) false (World.laidAll Tryz.prog os Rows.wholeBackUptoRow.laid) #[.agg #[.bool false, .slice none 0 0], .agg #[.bool false, .slice none 0 0]] (World.laidAll_os _ _ _) (by kernel_rfl) (by kernel_rfl) (by kernel_rfl)
      (OpenSpec.preRow_of_cond 8 hx (by kernel_rfl) (fun k hk => by cases hk; kernel_rfl) (by kernel_rfl) (laid_met os _))) ?_
  intro W base args ds gs before hval hW _ hcond _ hL _ _
  exact contract H enc W base args ds gs before hval hW (hcond _ rfl) (tab hL)
theorem said : Rows.WholeBackUptoSaid :=
  OpenClaim.holds_of_cond 4 Tryz.f4 rfl rfl rfl rfl rfl rfl rfl ⟨rfl, rfl, rfl, rfl, rfl⟩ rfl rfl rfl rfl rfl (by kernel_rfl) Tryz.func4 (by kernel_rfl)
    (of_decide_eq_true (by kernel_rfl)) (by unfold Func.isWrapper; first | (rw [if_pos (by decide +kernel)]; kernel_rfl) | (rw [if_neg (by decide +kernel)]; exact ⟨rfl, rfl⟩))
    (fun os started H enc _ F => by rw [OpenClaim.pre_eq_preRow]; exact lifted os started H enc F)
theorem plain (f : FuncId) (fn : Func) (hf : Tryz.pinned.checked.prog.funcNamed "tribunal/tribunallaw02.WholeBack" = some f) (hfn : Tryz.pinned.checked.prog.funcs[f]? = some fn) :
    true = Tryz.pinned.checked.prog.looks [] ∧ ∀ (j : Nat) t, fn.params[j]? = some t → Tryz.pinned.checked.prog.wantsStandIn t = false := by
  obtain rfl : f = 4 := Option.some.inj ((show Tryz.prog.funcNamed "tribunal/tribunallaw02.WholeBack" = some 4 by kernel_rfl).symm.trans hf) |>.symm
  obtain rfl : fn = Tryz.f4 := (Option.some.inj (Tryz.func4.symm.trans hfn)).symm
  refine ⟨by kernel_rfl, fun j t ht => ?_⟩
  rw [Tryz.params4] at ht
  have ht' := Array.mem_of_getElem? ht
  obtain rfl : t = 26 := by simpa using ht'
  all_goals exact (show Tryz.prog.wantsStandIn _ = false by kernel_rfl)
end Go.Proofs.YtikencoikigllaaGreatDoor.wholeBack
namespace Go.Proofs.YtikencoikigllaaGreatDoor
open Go
theorem wholeBack_card : Rows.WholeBackUptoCardSaid :=
  Claim7.holds_tied_plain_at .later [] _ _ _ _ wholeBack.said (fun _ h => by cases h) (by kernel_rfl) (fun _ h => by cases h) wholeBackUpto_row_tie rfl ⟨rfl, rfl⟩ (by kernel_rfl) rfl wholeBack.plain (by kernel_rfl)
end Go.Proofs.YtikencoikigllaaGreatDoor
