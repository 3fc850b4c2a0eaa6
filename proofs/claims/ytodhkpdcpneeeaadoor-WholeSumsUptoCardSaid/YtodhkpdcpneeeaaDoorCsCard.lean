/- WholeSums: THE CARD of the second form: for every argument (together of bulk at most 1048576) the law's call returns true and each argument reads as it did. Conditions: the row's own (the three laid tables hold what the program's text gives them). -/
import Derived.Test.YtodhkpdcpneeeaaDoorCards
import Derived.Test.YtodhkpdcpneeeaaDoorTie
import Derived.WalkKit
import Derived.ProofKit
import Derived.OpenShut
import Derived.SevenTiedAt
import Derived.Lib.SmallJoins
import Derived.Deep.DeepHandedRow
import Derived.Deep.DeepWitnessRowRef
import Derived.Lib.LaidTab
import Derived.LaidMore
import Derived.Below
import Derived.ChangeOld
import Derived.Deep.Slices
import Derived.Test.YtodhkpdcpneeeaaDoorCs4
namespace Go.Proofs.YtodhkpdcpneeeaaDoor.wholeSums
open Go Go.Joins Go.ChangeShapes Go.WideShapes Go.ChangeAt Go.RowKit Go.Proofs.YtodhkpdcpneeeaaDoorW.PrintWords Go.Proofs.YtodhkpdcpneeeaaDoorW.PrintLast Go.Proofs.YtodhkpdcpneeeaaDoorW.PrintMore
theorem own : ownKnob Tryd.prog.godebug = none := by kernel_rfl
theorem laidOut : laidOutB Tryd.prog = true := by kernel_rfl
set_option maxRecDepth 100000 in
theorem openCells {H : Type} {enc : TypeId × Value → H} {W : World} {base n : Nat} {held : Bool} {cs : List Value} {y : DataW H × List MemPlace} (h : DataW.trod enc Tryd.prog W base (fun _ => true) held n 25 cs = some y) :
    ∃ (x : PAd.S25) (A : Option Addr) (c : Nat), cs = [.bool x.f0, .slice A x.f1.length c] ∧ Kd.C (Kd.int .u64) W A x.f1.length x.f1 ∧ x.f1.length ≤ c ∧ x.f1.length ≤ Rows.uptoBulk y.1 ∧ ∀ z ∈ x.f1, (Lit.int .u64 z).wf = true := by
  obtain ⟨y0, y1, m, rfl, hcl, h0, h1⟩ := trod_struct2 Tryd.underlying25 h
  rw [show Tryd.prog.cellsOf 25 = 2 from by kernel_rfl] at hcl
  obtain ⟨v0, v1, rfl⟩ : ∃ v0 v1, cs = [v0, v1] := by
    match cs, hcl with
    | [v0, v1], _ => exact ⟨v0, v1, rfl⟩
  clear hcl
  have h0' : DataW.trod enc Tryd.prog W base (fun _ => true) held m 4 [v0] = some y0 := by
    simpa [show Tryd.prog.cellsOf 4 = 1 from by kernel_rfl] using h0
  have h1' : DataW.trod enc Tryd.prog W base (fun _ => true) held m 23 [v1] = some y1 := by
    simpa [show Tryd.prog.cellsOf 23 = 1 from by kernel_rfl] using h1
  obtain ⟨b, hb, _⟩ := DataW.trod_bool Tryd.underlying4 h0'
  have hb' : v0 = .bool b := by simpa using hb
  subst hb'
  rcases open_ints Tryd.underlying23 Tryd.underlying59 (by kernel_rfl) h1' with ⟨hcs, _⟩ | ⟨x, l, c, zs, hcs, _, hl, hm, hlen, hx, hcell, hwf⟩
  · have e1 : v1 = .slice none 0 0 := by simpa using hcs
    subst e1
    exact ⟨⟨b, []⟩, none, 0, rfl, Kd.C_nil _ _, Nat.le_refl _, Nat.zero_le _, fun x hx => by cases hx⟩
  · have e1 : v1 = .slice (some x) l c := by simpa using hcs
    subst e1
    have hzc : zs.length = c := by simpa using hlen
    obtain ⟨ll, hll, hr, hm2, hw2, hc2⟩ := ReadsInt.ofRowC (k := .u64) (w := W) (a := some x) (len := l) (cap := c) (zs := zs) (.inr ⟨x, rfl, hl, hm, hzc, hcell, hwf⟩)
    subst hll
    refine ⟨⟨b, ll⟩, some x, c, rfl, Kd.C_of_reads (d := (0 : Int)) (h1 := fun _ => rfl) hr, hc2, ?_, hw2⟩
    have h2 := bulks.slice_le (H := H) (lits .u64 (zs.take ll.length)) (lits .u64 (zs.drop ll.length))
    rw [hx]
    simp only [Rows.uptoBulk, Rows.uptoBulkAll] at h2 ⊢
    have h3 : (lits (H := H) .u64 (zs.take ll.length)).length = ll.length := by simp [lits]; omega
    rw [h3] at h2
    omega
theorem mapM_get {α β : Type} {f : α → Option β} : ∀ {l : List α} {r : List β}, l.mapM f = some r → ∀ (i : Nat) (y : β), r[i]? = some y → ∃ x, l[i]? = some x ∧ f x = some y
  | [], r, h, i, y, hy => by
    simp at h
    subst h
    simp at hy
  | a :: l, r, h, i, y, hy => by
    rw [List.mapM_cons] at h
    obtain ⟨b, hb, h⟩ := Option.bind_eq_some_iff.1 h
    obtain ⟨bs, hbs, h⟩ := Option.bind_eq_some_iff.1 h
    have h' : b :: bs = r := by simpa using h
    subst h'
    cases i with
    | zero =>
      have : b = y := by simpa using hy
      subst this
      exact ⟨a, by simp, hb⟩
    | succ i =>
      obtain ⟨x, h1, h2⟩ := mapM_get hbs i y (by simpa using hy)
      exact ⟨x, by simpa using h1, h2⟩
theorem cells_get {w : World} {base : Nat} {a : Addr} {n : Nat} {cs : List Value} (h : w.cells? base a n = some cs) (i : Nat) (u : Value) (hi : cs[i]? = some u) : w.cell? (a.add i) = some u := by
  unfold World.cells? at h
  split at h
  · obtain ⟨x, h1, h2⟩ := mapM_get h i u hi
    obtain ⟨h3, h4⟩ := List.getElem?_eq_some_iff.1 h1
    rw [List.getElem_range] at h4
    rw [h4]; exact h2
  · cases h
set_option maxRecDepth 100000 in
theorem openRow {H : Type} {enc : TypeId × Value → H} {W : World} {base b0 : Nat} {held : Bool} {v : Value} {d : DataW H} {p : List MemPlace} (hv : Value.okWide Tryd.prog W .any b0 44 v) (h : DataW.Trod enc Tryd.prog W base (fun _ => true) held 44 v d p) :
    ∃ (A : Option Addr) (c : Nat) (l : List PAd.S25), v = .slice A l.length c ∧ Kd.C PAd.k25 W A l.length l ∧ l.length ≤ c ∧ l.length ≤ Rows.uptoBulk d ∧ ∀ x ∈ l, x.f1.length ≤ Rows.uptoBulk d ∧ ∀ z ∈ x.f1, (Lit.int .u64 z).wf = true := by
  obtain ⟨fuel, hf⟩ := h
  obtain ⟨sA, sl, sc, rfl⟩ := okWide_slice Tryd.underlying44 hv
  rcases Go.Deep.open_slice Tryd.underlying44 hf with ⟨hcs, _⟩ | ⟨a, len, cap, m, n, D, Pl, hcs, hb, hl, hmx, hm, hx, hall⟩
  · simp [Value.cells] at hcs
    obtain ⟨rfl, rfl, rfl⟩ := hcs
    exact ⟨none, 0, [], rfl, Kd.C_nil _ _, Nat.le_refl _, Nat.zero_le _, fun x hx => by cases hx⟩
  · simp [Value.cells] at hcs
    obtain ⟨rfl, rfl, rfl⟩ := hcs
    simp only [if_true] at hm
    rw [show Tryd.prog.cellsOf 25 = 2 from by kernel_rfl] at hall
    have hch : ∀ i, ∃ x : PAd.S25, i < sl → (∃ c, c.length = 2 ∧ PAd.k25.K W x c ∧ ∀ j u, c[j]? = some u → W.cell? (a.add (i * 2 + j)) = some u) ∧ x.f1.length ≤ Rows.uptoBulk (D i) ∧ ∀ z ∈ x.f1, (Lit.int .u64 z).wf = true := by
      intro i
      by_cases hi : i < sl
      · obtain ⟨cs', h1, h2⟩ := hall i (by omega)
        obtain ⟨x, A1, c1, rfl, hC, hc, hlen, hw⟩ := openCells h2
        refine ⟨x, fun _ => ⟨⟨_, rfl, PAd.k25_mk W x hc hC, fun j u hj => ?_⟩, hlen, hw⟩⟩
        have := cells_get h1 j u hj
        rwa [_root_.Go.Addr.add_add] at this
      · exact ⟨⟨false, []⟩, fun h => absurd h hi⟩
    obtain ⟨f, hf⟩ := Classical.axiomOfChoice hch
    have hlen : ((List.range sl).map f).length = sl := by simp
    simp only [Prod.mk.injEq] at hx
    have hbk := bulks.slice_le (H := H) ((List.range sl).map D) ((List.range (m - sl)).map fun j => D (sl + j))
    have hbe := bulks.slice_elems (H := H) ((List.range sl).map D) ((List.range (m - sl)).map fun j => D (sl + j))
    have hmx2 : sl ≤ 9223372036854775807 := by
      have : maxLen ≤ 9223372036854775807 := by decide
      omega
    refine ⟨some a, sc, (List.range sl).map f, by rw [hlen], ⟨rfl, by rw [hlen]; exact hmx2, fun _ => ⟨a, rfl, fun j q hj => ?_⟩⟩, by rw [hlen]; exact hl, by rw [hlen, hx.1]; simp at hbk; omega, fun x hx' => ?_⟩
    · obtain ⟨hj1, hj2⟩ := List.getElem?_eq_some_iff.1 hj
      have hjl : j < sl := by simpa using hj1
      obtain ⟨h1, _⟩ := hf j hjl
      have e : q = f j := by simpa using hj2.symm
      rw [e]; exact h1
    · obtain ⟨i, hi, rfl⟩ := List.mem_map.1 hx'
      have hil : i < sl := by simpa using hi
      obtain ⟨_, h2, h3⟩ := hf i hil
      refine ⟨?_, h3⟩
      have := bulks.part_le (d := D i) (l := (List.range sl).map D) (List.mem_map.2 ⟨i, hi, rfl⟩)
      rw [hx.1]
      omega
set_option maxRecDepth 100000 in
theorem contract (H : Type) (enc : TypeId × Value → H) (W : World) (base : Nat) (args : Array Value) (ds gs : List (DataW H)) (before : List MemPlace)
    (hval : ∀ (j : Nat) t v, Tryd.f8.params[j]? = some t → args[j]? = some v → Value.okWide Tryd.prog W .any base t v)
    (hW : DataW.Whole enc Tryd.prog Tryd.f8.params.toList Rows.wholeSumsSpec.vars false W args.toList ds gs before) (hk : Rows.uptoSmall H (ds ++ gs) = true) :
    Calls Tryd.prog 8 args W fun e W' => ∃ v, e = .returned v ∧ Rows.wholeSumsSpec.post enc Tryd.prog Tryd.f8 false true false false W args v W' := by
  have hW' := hW
  obtain ⟨p, q, hA0, hV, rfl, hfz, hnd⟩ := hW
  have hA : DataW.TrodAll enc Tryd.prog W 0 (fun _ => true) true Tryd.f8.params.toList args.toList ds p := hA0
  rw [Tryd.params8] at hA hval
  obtain ⟨v0, vs0, d0, ds0, p0, q0, hargs, rfl, rfl, h0, r0⟩ := trodAll_cons hA
  obtain ⟨rfl, rfl, rfl⟩ := trodAll_nil r0
  obtain rfl : args = #[v0] := by cases args; simp_all
  obtain ⟨rfl, rfl⟩ := trodVars_none hV
  have hb := bulks.bound hk
  simp only [List.append_nil, Rows.uptoBulkAll] at hb
  have k0 := h0
  have lt0 : ∀ x ∈ p0, x.block < W.heap.size := by obtain ⟨m, hm⟩ := k0; exact DataW.trod_lt m _ _ _ hm
  obtain ⟨A0, c0, l0, rfl, hC0, hc0, hl0, hw0⟩ := openRow (hval 0 44 v0 rfl rfl) h0
  clear hA0
  simp only [List.append_nil] at hW'
  obtain ⟨k, h⟩ := YtodhkpdcpneeeaaDoor.Pure.wholeSums_pure l0 (by omega) (fun x hx => ⟨by have := (hw0 x hx).1; omega, (hw0 x hx).2⟩)
  refine (PAd.tribunallaw02_WholeSums.calls k _ _ l0 true W hC0 hc0 h).mono fun e W' ⟨he, bel⟩ => ?_
  subst he
  exact ⟨_, rfl, _, _, _, [], _, [], hW', trodAll_mk1 (shut_bool Tryd.underlying4 _), (trodAll_cons_mk (Below.trod laidOut (by kernel_rfl) (of_decide_eq_true (by kernel_rfl)) k0 bel lt0) trodAll_mk0), rfl, bel.frame _, fun h => by cases h⟩
theorem laid_met (os : Os) (args : Array Value) : laidMetH Tryd.prog Rows.wholeSumsUptoRow.laid ((World.doorLaid Tryd.prog 400 os).forCall (fun _ _ => 0) ⟨#[], args, []⟩).memory :=
  laidMetH_of_parts3 (fuel := 8) (laidMet_of_run' 8 (by kernel_rfl) (by kernel_rfl)) (by kernel_rfl) (by kernel_rfl)
set_option maxRecDepth 100000 in
theorem reads (os : Os) {H : Type} (enc : TypeId × Value → H) : ∃ x places, DataW.whole enc Tryd.prog ((World.doorLaid Tryd.prog 400 os).forCall (fun _ _ => 0) ⟨#[], #[.slice none 0 0], []⟩).memory Tryd.f8.params.toList Rows.wholeSumsSpec.vars false #[Value.slice none 0 0].toList 8 = some (x, [], places) ∧ x = [.nil] :=
  ⟨_, [], by kernel_rfl, rfl⟩
set_option maxRecDepth 100000 in
theorem lifted (os : Os) (started : os.Started) (H : Type) (enc : TypeId × Value → H) (F : Stop.Interp) :
    ReturnsInHanded {} Tryd.checked os 8 .any ((Rows.OpenSpec.upto Rows.wholeSumsSpec).preRow enc Tryd.prog Tryd.f8 Rows.wholeSumsUptoRow.domain false Rows.wholeSumsUptoRow.laid) (((Rows.OpenSpec.upto Rows.wholeSumsSpec).at F).post enc Tryd.prog Tryd.f8 false true false false) := by
  obtain ⟨x, places, hx, rfl⟩ := reads os enc
  refine returnsInHanded_of_row (C := Tryd.checked) (s := Rows.OpenSpec.upto Rows.wholeSumsSpec) own started (by kernel_rfl) Tryd.func8
    (witness_row_atRef (enc := enc) (C := Tryd.checked) false (World.doorLaid Tryd.prog 400 os) #[.slice none 0 0] rfl (by kernel_rfl) (by kernel_rfl) (by kernel_rfl)
      (OpenSpec.preRow_of_cond 8 hx (by kernel_rfl) (fun k hk => by cases hk; kernel_rfl) (by kernel_rfl) (laid_met os _))) ?_
  intro W base args ds gs before hval hW _ hcond _ hL _ _
  exact contract H enc W base args ds gs before hval hW (hcond _ rfl)
theorem said : Rows.WholeSumsUptoSaid :=
  OpenClaim.holds_of_cond 8 Tryd.f8 rfl rfl rfl rfl rfl rfl rfl ⟨rfl, rfl, rfl, rfl, rfl⟩ rfl rfl rfl rfl rfl (by kernel_rfl) Tryd.func8 (by kernel_rfl)
    (of_decide_eq_true (by kernel_rfl)) (by unfold Func.isWrapper; first | (rw [if_pos (by decide +kernel)]; kernel_rfl) | (rw [if_neg (by decide +kernel)]; exact ⟨rfl, rfl⟩))
    (fun os started H enc _ F => by rw [OpenClaim.pre_eq_preRow]; exact lifted os started H enc F)
theorem plain (f : FuncId) (fn : Func) (hf : Tryd.pinned.checked.prog.funcNamed "tribunal/tribunallaw02.WholeSums" = some f) (hfn : Tryd.pinned.checked.prog.funcs[f]? = some fn) :
    false = Tryd.pinned.checked.prog.looks [] ∧ ∀ (j : Nat) t, fn.params[j]? = some t → Tryd.pinned.checked.prog.wantsStandIn t = false := by
  obtain rfl : f = 8 := Option.some.inj ((show Tryd.prog.funcNamed "tribunal/tribunallaw02.WholeSums" = some 8 by kernel_rfl).symm.trans hf) |>.symm
  obtain rfl : fn = Tryd.f8 := (Option.some.inj (Tryd.func8.symm.trans hfn)).symm
  refine ⟨by kernel_rfl, fun j t ht => ?_⟩
  rw [Tryd.params8] at ht
  have ht' := Array.mem_of_getElem? ht
  obtain rfl : t = 44 := by simpa using ht'
  all_goals exact (show Tryd.prog.wantsStandIn _ = false by kernel_rfl)
end Go.Proofs.YtodhkpdcpneeeaaDoor.wholeSums
namespace Go.Proofs.YtodhkpdcpneeeaaDoor
open Go
theorem wholeSums_card : Rows.WholeSumsUptoCardSaid :=
  Claim7.holds_tied_plain_at .later [] _ _ _ _ wholeSums.said (fun _ h => by cases h) (by kernel_rfl) (fun _ h => by cases h) wholeSumsUpto_row_tie rfl ⟨rfl, rfl⟩ (by kernel_rfl) rfl wholeSums.plain (by kernel_rfl)
end Go.Proofs.YtodhkpdcpneeeaaDoor
