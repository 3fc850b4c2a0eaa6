/- Part 1 of what the card rests on. -/
import Derived.Test.YtodhkpdcpneeeaaDoorRows
import Derived.Test.YtodhkpdcpneeeaaDoorProg
import Derived.Below
import Derived.OwnWalk
import Derived.Laws.MakeOwn
import Derived.Laws.Externs
import Derived.Shelf.Spec.BitsCarry
import Derived.WalkKit
import Derived.KernelRfl
import Derived.RowKit3
import Derived.Lib.AppendStr
import Derived.WideLaws
import Derived.WalkSpells
import Derived.Lib.LazyBuf
import Derived.Deep.LoopGhost
import Derived.Deep.QuietTactic
import Derived.BigQuiet
import Derived.ArgAppend
import Derived.Shelf.Strings.Builder1
import Derived.Shelf.Strings.Builder2
import Derived.Shelf.Strings.OnBuilder
import Derived.Shelf.Small.Bits
import Derived.Shelf.Strings.BuilderF
import Derived.Shelf.Strconv.Itoa0
import Derived.Shelf.Strconv.Itoa1
import Derived.Shelf.LaysM
import Derived.Shelf.Strconv.Itoa2
import Derived.Shelf.Strings.Prefix
import Derived.Shelf.Bits.Mul64
import Derived.Shelf.Strings.Repeat
import Derived.Ground.Names2Prog
import Derived.Shelf.Slices.ReverseS
import Derived.Shelf.Slices.Cells
import Derived.Deep.Draws
import Derived.Deep.AppendLies
import Derived.Maps.AppendAt
import Derived.Laws.BytesArg
import Derived.Laws.OwnMore
import Derived.Deep.OwnRows
import Derived.Tactics
import Derived.Lib.ConvBytes
import Derived.Laws.Slices
import Derived.Deep.DeepCutAuto
import Derived.Deep.CutBlock
import Derived.Deep.RegionHeld3
import Derived.Laws.Rows
import Derived.Laws.IdiomCopy
import Derived.OrdersHeld
import Derived.Laws.BitsLemmas
import Derived.RowKit
import Derived.Deep.RegionWith
import Derived.Test.YtodhkpdcpneeeaaDoorCe0
set_option maxHeartbeats 8000000
set_option maxRecDepth 100000
set_option linter.unusedVariables false
set_option linter.unusedSimpArgs false
namespace Go.Proofs.YtodhkpdcpneeeaaDoor.bulks
theorem one_le {H : Type} (d : DataW H) : 1 ≤ Rows.uptoBulk d := by
 cases d with
 | lit l => cases l <;> simp [Rows.uptoBulk]
 | nil => simp [Rows.uptoBulk]
 | ptr d => simp [Rows.uptoBulk]
 | slice elems spare => simp [Rows.uptoBulk]
 | agg parts => simp [Rows.uptoBulk]
 | iface t d => simp [Rows.uptoBulk]
 | map entries => simp [Rows.uptoBulk]
 | held h => simp [Rows.uptoBulk]
theorem length_le {H : Type} (l : List (DataW H)) : l.length ≤ Rows.uptoBulkAll l := by
 induction l with
 | nil => simp [Rows.uptoBulkAll]
 | cons x r ih => have := one_le x; simp only [Rows.uptoBulkAll, List.length_cons]; omega
theorem slice_le {H : Type} (elems spare : List (DataW H)) : elems.length + spare.length + 1 ≤ Rows.uptoBulk (.slice elems spare) := by
 have h1 := length_le elems
 have h2 := length_le spare
 simp only [Rows.uptoBulk]
 omega
theorem bound {H : Type} {l : List (DataW H)} (hk : Rows.uptoSmall H l = true) : Rows.uptoBulkAll l ≤ 1048576 := by
 simpa [Rows.uptoSmall] using hk
end Go.Proofs.YtodhkpdcpneeeaaDoor.bulks
namespace Go.Proofs.YtodhkpdcpneeeaaDoorW.PrintWords
open Go.RowKit
namespace Kd
section
variable {α : Type} {P : Program} {ops : Array Oper} {o : Oper} {a : Act} {rest : List Oper} {Q : Exit → Act → World → Prop}
theorem R_make0 (d : Kd α) {w0 W : World} (base e : Nat) (hgd : o.guard = none) {N : Tmp} (_hd : o.dst = some N) (t : TypeId) (x y : Operand) (ho : o.op = .makeSlice t x y) (n : Int) (hx : a.eval x = .int .i64 0) (hy : a.eval y = .int .i64 n)
  (ht : P.underlying t = some (.slice e)) (z : Value) (bytes : Nat) (hinfo : (P.info? e).map (fun i => (i.zero, i.size, i.bytes)) = some (some z, d.sz, bytes)) (_hz : z.cells.size = d.sz) (_hs0 : 0 < d.sz) (hb0 : 0 < bytes)
  (z0 : α) {ok okp : Nat → Prop} (_hzero : d.M W base okp z0 z.cells.toList) (_hok : ∀ k, okp k → ok k) (hfresh : ok W.heap.size) (h0 : 0 ≤ n) (hl : n.toNat * bytes ≤ 281474976710656) (HB : Below base w0 W) (hbase : base ≤ W.heap.size)
  (h : ∀ v1 w1, d.R e w1 base ok v1 [] → Below base w0 w1 → W.grownBy w1 none → (∃ b, v1.ownBlock = some b ∧ W.heap.size ≤ b) → wpList P ops Q rest (a.put o.dst v1) w1) : wpList P ops Q (o :: rest) a W := by
 obtain ⟨m, rfl⟩ := Int.eq_ofNat_of_zero_le h0
 simp only [Int.toNat_natCast] at hl
 obtain ⟨i0, hi, hzz⟩ := Option.map_eq_some_iff.1 hinfo
 simp only [Prod.mk.injEq] at hzz
 obtain ⟨hz0, hz1, hz2⟩ := hzz
 have hm : m ≤ 281474976710656 := Nat.le_trans (Nat.le_mul_of_pos_right _ hb0) hl
 have hr := run_make (P := P) W t e i0 z ht hi hz0 .i64 .i64 0 (m : Int) (by omega) (by omega)
  (by
   have h3 : ((i0.bytes * m : Nat) : Int) ≤ 281474976710656 := by rw [hz2, Nat.mul_comm]; omega
   rwa [Int.natCast_mul] at h3) (by omega)
 simp only [Int.toNat_natCast, Int.toNat_zero] at hr
 rw [hz1] at hr
 have hrun : (execOp a.eval o).run P W = .ok (.value (.slice (some ⟨W.heap.size, 0, none⟩) 0 m)) (W.alloc (.cells (madeCells z.cells (m * d.sz)) e)) := by
  simp [execOp, ho, hx, hy, hr]
 refine event_run hgd hrun (h _ _ ⟨fun k hk => ?_, [], ?_, ?_⟩ (HB.alloc hbase _) (World.grownBy_alloc W _ none) ⟨W.heap.size, by simp [Value.ownBlock], Nat.le_refl _⟩)
 ·have : W.heap.size = k := by simpa [Value.ownBlock] using hk
  subst this
  exact hfresh
 ·exact World.ownsRow_made W _ m hbase (by unfold maxLen; omega) (by rw [size_madeCells])
 exact Reps.none _ _
end
end Kd
end Go.Proofs.YtodhkpdcpneeeaaDoorW.PrintWords
namespace Go.Proofs.YtodhkpdcpneeeaaDoor.Mine
open Go.RowKit Go.Proofs.YtodhkpdcpneeeaaDoorW.PrintWords Go.Proofs.YtodhkpdcpneeeaaDoorW.PrintLast Go.Proofs.YtodhkpdcpneeeaaDoorW.PrintMore
def bits_Add64.f (x y c : Int) : Option (Int × Int) := if 0 ≤ x ∧ 0 ≤ y ∧ 0 ≤ c ∧ c ≤ 1 then some ((x + y + c) % 18446744073709551616, (x + y + c) / 18446744073709551616) else none
theorem bits_Add64.run {x y c r1 r2 : Int} (h : bits_Add64.f x y c = some (r1, r2)) : ∀ w : World, (callFunc 118 #[.int .u64 x, .int .u64 y, .int .u64 c]).run Tryd.prog w = .ok (.value (.tuple #[.int .u64 r1, .int .u64 r2])) w := by
 intro w
 unfold bits_Add64.f at h
 split at h
 ·rename_i hc
  obtain ⟨hx, hy, h0, h1⟩ := hc
  have h2 := Option.some.inj h
  simp only [Prod.mk.injEq] at h2
  obtain ⟨rfl, rfl⟩ := h2
  rw [run_callFunc_extern Tryd.func118 (by kernel_rfl) (by kernel_rfl) (by kernel_rfl) (e := add64Entry) (by kernel_rfl), run_add64 x y c hx hy h0 h1]
  rfl
 cases h
def bits_Sub64.f (x y c : Int) : Option (Int × Int) := if 0 ≤ x ∧ 0 ≤ y ∧ y < 18446744073709551616 ∧ 0 ≤ c ∧ c ≤ 1 then some ((x - y - c) % 18446744073709551616, if x < y + c then 1 else 0) else none
theorem bits_Sub64.run {x y c r1 r2 : Int} (h : bits_Sub64.f x y c = some (r1, r2)) : ∀ w : World, (callFunc 119 #[.int .u64 x, .int .u64 y, .int .u64 c]).run Tryd.prog w = .ok (.value (.tuple #[.int .u64 r1, .int .u64 r2])) w := by
 intro w
 unfold bits_Sub64.f at h
 split at h
 ·rename_i hc
  obtain ⟨hx, hy, hy', h0, h1⟩ := hc
  have h2 := Option.some.inj h
  simp only [Prod.mk.injEq] at h2
  obtain ⟨rfl, rfl⟩ := h2
  obtain ⟨x, rfl⟩ := Int.eq_ofNat_of_zero_le hx
  obtain ⟨y, rfl⟩ := Int.eq_ofNat_of_zero_le hy
  obtain ⟨c, rfl⟩ := Int.eq_ofNat_of_zero_le h0
  have e1 : (((x + 18446744073709551616 - y - c) % 18446744073709551616 : Nat) : Int) = ((x : Int) - y - c) % 18446744073709551616 := by omega
  have e2 : ((if x < y + c then 1 else 0 : Nat) : Int) = if (x : Int) < y + c then 1 else 0 := by split <;> split <;> omega
  rw [run_callFunc_extern Tryd.func119 (by kernel_rfl) (by kernel_rfl) (by kernel_rfl) (e := sub64Entry) (by kernel_rfl), run_sub64 x y c (by omega)]
  rw [← e1, ← e2]
  rfl
 cases h
end Go.Proofs.YtodhkpdcpneeeaaDoor.Mine
namespace Go.Proofs.YtodhkpdcpneeeaaDoor.Mine
open Go.RowKit Go.Proofs.YtodhkpdcpneeeaaDoorW.PrintWords Go.Proofs.YtodhkpdcpneeeaaDoorW.PrintLast Go.Proofs.YtodhkpdcpneeeaaDoorW.PrintMore
theorem minfo59 : (Tryd.prog.info? 59).map (fun i => (i.zero, i.size, i.bytes)) = some (some (.int .u64 0), 1, 8) := by kernel_rfl
def api_Nat_uint64.f (l0 : List Int) : Option (List Int) := if l0.length < 17592186044416 then some l0 else none
set_option maxHeartbeats 1000000 in
theorem api_Nat_uint64.calls (A0 : Option Addr) (c0 : Nat) (l0 : List Int) (r : List Int) (w : World) (hr0 : Kd.C (Kd.int .u64) w A0 l0.length l0) (hc0 : l0.length ≤ c0) (h : api_Nat_uint64.f l0 = some r) :
  Calls Tryd.prog 109 #[.slice A0 l0.length c0] w fun e w' => ∃ v0_ : Value, e = .returned (v0_) ∧ Kd.R (Kd.int .u64) 59 w' w.heap.size (fun _ => True) v0_ r ∧ Below w.heap.size w w' := by
 unfold api_Nat_uint64.f at h
 split at h
 ·rename_i hlen
  obtain rfl := Option.some.inj h
  clear h
  have HR0 := Aside0.mk hr0
  have HC0 := Aside0.mk hc0
  have HL := Aside0.mk hlen
  clear hc0 hlen
  rcases A0 with _ | a
  ·have hl : l0 = [] := by
    rcases l0 with _ | ⟨x, l⟩
    ·rfl
    obtain ⟨ad, he, _⟩ := Kd.at_int hr0 0 (by omega) (by simp)
    cases he
   subst hl
   clear hr0
   have hn := fun (w : World) => _root_.Go.run_eql_slice_nil (P := Tryd.prog) w 23 59 none 0 c0 Tryd.underlying23
   go_enter Tryd.func109, Tryd.ntmps109
   go_wp2
   go_ret
   exact ⟨_, rfl, Kd.R_nil _ _ _ _ _, Below.refl _ _⟩
  clear hr0
  have hn := fun (w : World) => _root_.Go.run_eql_slice_nil (P := Tryd.prog) w 23 59 (some a) l0.length c0 Tryd.underlying23
  go_enter Tryd.func109, Tryd.ntmps109
  go_wp2_with (first
   | ((with_reducible refine gate_dst (N := 5) rfl ?_); refine Kd.R_lit (Kd.int .u64) _ 59 ?hg (N := 5) ?hd (xs := ([] : List Int)) (inner := []) (ok := fun _ => True) (okp := fun _ => True) ?hr ?hp (fun _ hk => hk) trivial (Below.refl _ _) (Nat.le_refl _) (by simp) ?_; (case hd => rfl); (case hg => rfl); (case hr => first | (go_simp; done) | (go_simp; rfl)); (case hp => exact (Reps.none _ _)); intro v1 w1 ho hb hg_ hnew_; clear hg_ hnew_; have HO := Aside0.mk ho; have HB := Aside0.mk hb; clear ho hb; obtain ⟨Ao, co, eo⟩ := Kd.R_slice HO.out; subst eo)
   | ((with_reducible refine gate_builtin (b := .append) (xs := #[.tmp 5, .tmp 6]) rfl ?_); at_builtin; refine Kd.R_append_rows (Kd.int .u64) (w0 := w) w.heap.size rfl (.tmp 5) (.tmp 6) 23 59 (.int .u64 0) 8 rfl Tryd.underlying23 minfo59 rfl (by decide) (by omega) (.slice Ao ([] : List Int).length co) [] l0 _ _ _ (fun _ => True) (fun _ => False) rfl rfl ?aO ?aR (fun _ _ h => h) (fun _ h => h.elim) ?aF ?aB ?aS ?aL ?_; (case aR => exact Kd.C_below HR0.out HB.out); (case aB => exact HB.out); (case aF => exact fun _ _ => trivial); (case aO => exact HO.out); (case aS => exact below_size HB.out); (case aL => have := HL.out; simp only [List.length_nil]; omega); intro v2 w2 ho hb hg hat; have HO2 := Aside0.mk ho; have HB2 := Aside0.mk hb; clear ho hb hg hat; simp only [List.nil_append] at HO2; obtain ⟨Ao2, co2, eo2⟩ := Kd.R_slice HO2.out; subst eo2))
  go_ret
  exact ⟨_, rfl, HO2.out, HB2.out⟩
 cases h
def strconv_FormatUint.f (a0 a1 : Int) : Option ByteArray := if a1 = 10 then
 (if a0 = 0 then some ⟨#[48]⟩ else if a0 = 1 then some ⟨#[49]⟩ else if a0 = 2 then some ⟨#[50]⟩ else if a0 = 3 then some ⟨#[51]⟩ else if a0 = 4 then some ⟨#[52]⟩ else none) else none
theorem formatUint0 (w : World) : Calls Tryd.prog 69 #[.int .u64 0, .int .i64 10] w fun e w' => e = .returned (.string ⟨#[48]⟩) ∧ Drawn0 w w' := by
 go_enter Tryd.func69, Tryd.ntmps69
 go_wp2
 go_ret
 exact ⟨by first | rfl | (simp; done), by repeat (first | exact Drawn0.refl _ | apply Drawn0.step)⟩
theorem formatUint1 (w : World) : Calls Tryd.prog 69 #[.int .u64 1, .int .i64 10] w fun e w' => e = .returned (.string ⟨#[49]⟩) ∧ Drawn0 w w' := by
 go_enter Tryd.func69, Tryd.ntmps69
 go_wp2
 go_ret
 exact ⟨by first | rfl | (simp; done), by repeat (first | exact Drawn0.refl _ | apply Drawn0.step)⟩
theorem formatUint2 (w : World) : Calls Tryd.prog 69 #[.int .u64 2, .int .i64 10] w fun e w' => e = .returned (.string ⟨#[50]⟩) ∧ Drawn0 w w' := by
 go_enter Tryd.func69, Tryd.ntmps69
 go_wp2
 go_ret
 exact ⟨by first | rfl | (simp; done), by repeat (first | exact Drawn0.refl _ | apply Drawn0.step)⟩
theorem formatUint3 (w : World) : Calls Tryd.prog 69 #[.int .u64 3, .int .i64 10] w fun e w' => e = .returned (.string ⟨#[51]⟩) ∧ Drawn0 w w' := by
 go_enter Tryd.func69, Tryd.ntmps69
 go_wp2
 go_ret
 exact ⟨by first | rfl | (simp; done), by repeat (first | exact Drawn0.refl _ | apply Drawn0.step)⟩
theorem formatUint4 (w : World) : Calls Tryd.prog 69 #[.int .u64 4, .int .i64 10] w fun e w' => e = .returned (.string ⟨#[52]⟩) ∧ Drawn0 w w' := by
 go_enter Tryd.func69, Tryd.ntmps69
 go_wp2
 go_ret
 exact ⟨by first | rfl | (simp; done), by repeat (first | exact Drawn0.refl _ | apply Drawn0.step)⟩
theorem strconv_FormatUint.calls (a0 a1 : Int) (r : ByteArray) (w : World) (h : strconv_FormatUint.f a0 a1 = some r) :
  Calls Tryd.prog 69 #[.int .u64 a0, .int .i64 a1] w fun e w' => e = .returned (.string r) ∧ Drawn0 w w' := by
 unfold strconv_FormatUint.f at h
 split at h
 ·rename_i h1
  subst h1
  split at h
  ·rename_i h0; subst h0; obtain rfl := Option.some.inj h; exact formatUint0 w
  split at h
  ·rename_i h0; subst h0; obtain rfl := Option.some.inj h; exact formatUint1 w
  split at h
  ·rename_i h0; subst h0; obtain rfl := Option.some.inj h; exact formatUint2 w
  split at h
  ·rename_i h0; subst h0; obtain rfl := Option.some.inj h; exact formatUint3 w
  split at h
  ·rename_i h0; subst h0; obtain rfl := Option.some.inj h; exact formatUint4 w
  cases h
 cases h
end Go.Proofs.YtodhkpdcpneeeaaDoor.Mine
namespace Go.Proofs
open Go.Shelf
def Tryd.lays156_ren : Go.Shelf.Ren := ⟨fun | 156 => 72 | 165 => 101 | 166 => 102 | 169 => 104 | 240 => 126 | 241 => 127 | 276 => 134 | 277 => 135 | n => n, fun | 31 => 77 | 9 => 9 | 3 => 3 | 4 => 4 | 0 => 0 | 20 => 20 | 72 => 115 | 76 => 119 | 70 => 112 | 37 => 113 | 75 => 118 | 127 => 143 | 164 => 152 | 5 => 5 | 80 => 122 | n => n, fun | n => n⟩
theorem Tryd.lays156 : Go.Proofs.Lays.n156 Tryd.prog Tryd.lays156_ren := {
 mixed := by kernel_rfl
 f156 := Tryd.func72.trans (congrArg some (by kernel_rfl))
 f165 := Tryd.func101.trans (congrArg some (by kernel_rfl))
 f166 := Tryd.func102.trans (congrArg some (by kernel_rfl))
 f169 := Tryd.func104.trans (congrArg some (by kernel_rfl))
 f240 := Tryd.func126.trans (congrArg some (by kernel_rfl))
 f241 := Tryd.func127.trans (congrArg some (by kernel_rfl))
 f276 := Tryd.func134.trans (congrArg some (by kernel_rfl))
 f277 := Tryd.func135.trans (congrArg some (by kernel_rfl))
 t0 := Tryd.underlying0
 a0 := Tryd.isAgg0
 z0 := Tryd.sizeOf0
 v0 := Tryd.zeroValue0
 t3 := Tryd.underlying3
 a3 := Tryd.isAgg3
 z3 := Tryd.sizeOf3
 v3 := Tryd.zeroValue3
 t4 := Tryd.underlying4
 a4 := Tryd.isAgg4
 z4 := Tryd.sizeOf4
 v4 := Tryd.zeroValue4
 t9 := Tryd.underlying9
 a9 := Tryd.isAgg9
 z9 := Tryd.sizeOf9
 v9 := Tryd.zeroValue9
 t20 := Tryd.underlying20
 a20 := Tryd.isAgg20
 z20 := Tryd.sizeOf20
 v20 := Tryd.zeroValue20
 t31 := Tryd.underlying77
 a31 := Tryd.isAgg77
 z31 := Tryd.sizeOf77
 v31 := Tryd.zeroValue77
 t37 := Tryd.underlying113
 a37 := Tryd.isAgg113
 z37 := Tryd.sizeOf113
 v37 := Tryd.zeroValue113
 t70 := Tryd.underlying112
 a70 := Tryd.isAgg112
 z70 := Tryd.sizeOf112
 v70 := Tryd.zeroValue112
 t72 := Tryd.underlying115
 a72 := Tryd.isAgg115
 z72 := Tryd.sizeOf115
 v72 := Tryd.zeroValue115
 t75 := Tryd.underlying118
 a75 := Tryd.isAgg118
 z75 := Tryd.sizeOf118
 v75 := Tryd.zeroValue118
 t76 := Tryd.underlying119
 a76 := Tryd.isAgg119
 z76 := Tryd.sizeOf119
 v76 := Tryd.zeroValue119
 t127 := Tryd.underlying143
 a127 := Tryd.isAgg143
 z127 := Tryd.sizeOf143
 v127 := Tryd.zeroValue143
 t164 := Tryd.underlying152
 a164 := Tryd.isAgg152
 z164 := Tryd.sizeOf152
 v164 := Tryd.zeroValue152 }
theorem Tryd.Builder_Extra_156 : Builder.Extra Tryd.prog Tryd.lays156_ren := {
 sizeBuilder := by kernel_rfl
 liesBuilder := by kernel_rfl
 t5 := Tryd.underlying5
 a5 := Tryd.isAgg5
 z5 := Tryd.sizeOf5
 v5 := Tryd.zeroValue5
 infoByte := by kernel_rfl
 cellsByte := by kernel_rfl
 sizeByte := by kernel_rfl
 neB5 := by decide }
open Go.RowKit in
theorem Tryd.strings_Join_none (a : Option Addr) (c : Nat) (sep : ByteArray) (w : World) :
  Calls Tryd.prog 72 #[.slice a 0 c, .string sep] w fun e w' => e = .returned (.string ⟨#[]⟩) ∧ w' = w := Any.strings_Join_none Tryd.lays156 Tryd.Builder_Extra_156 a c sep w
open Go.RowKit in
theorem Tryd.strings_Join (bk o c : Nat) (xs : List ByteArray) (sep : ByteArray) (w : World) (hcells : ∀ (j : Nat) x, xs[j]? = some x → w.cell? ⟨bk, o + j, none⟩ = some (.string x)) (hbk : bk < w.heap.size) (hN : xs.length ≤ 140737488355328) (hcap : xs.length ≤ c) (hlen : (Lib.join (xs.map (·.data.toList)) sep.data.toList).length ≤ 140737488355328) :
  Calls Tryd.prog 72 #[.slice (some ⟨bk, o, none⟩) xs.length c, .string sep] w fun e w' => e = .returned (.string ⟨(Lib.join (xs.map (·.data.toList)) sep.data.toList).toArray⟩) ∧ Below w.heap.size w w' := Any.strings_Join Tryd.lays156 Tryd.Builder_Extra_156 bk o c xs sep w hcells hbk hN hcap hlen
def Tryd.lays134_ren : Go.Shelf.Ren := ⟨fun | 134 => 112 | 129 => 129 | n => n, fun | 53 => 59 | 3 => 3 | 4 => 4 | 46 => 93 | 5 => 5 | 9 => 9 | n => n, fun | n => n⟩
theorem Tryd.lays134 : Go.Proofs.Lays.n134 Tryd.prog Tryd.lays134_ren := {
 mixed := by kernel_rfl
 f129 := Tryd.func129.trans (congrArg some (by kernel_rfl))
 f134 := Tryd.func112.trans (congrArg some (by kernel_rfl))
 t3 := Tryd.underlying3
 a3 := Tryd.isAgg3
 z3 := Tryd.sizeOf3
 v3 := Tryd.zeroValue3
 t4 := Tryd.underlying4
 a4 := Tryd.isAgg4
 z4 := Tryd.sizeOf4
 v4 := Tryd.zeroValue4
 t5 := Tryd.underlying5
 a5 := Tryd.isAgg5
 z5 := Tryd.sizeOf5
 v5 := Tryd.zeroValue5
 t9 := Tryd.underlying9
 a9 := Tryd.isAgg9
 z9 := Tryd.sizeOf9
 v9 := Tryd.zeroValue9
 t46 := Tryd.underlying93
 a46 := Tryd.isAgg93
 z46 := Tryd.sizeOf93
 v46 := Tryd.zeroValue93
 t53 := Tryd.underlying59
 a53 := Tryd.isAgg59
 z53 := Tryd.sizeOf59
 v53 := Tryd.zeroValue59 }
theorem Tryd.bits_LeadingZeros64 (x : Int) (w : World) (h0 : 0 ≤ x) (h1 : x ≤ 18446744073709551615) :
  Calls Tryd.prog 112 #[.int .u64 x] w fun e w' => e = .returned (.int .i64 (64 - (Lib.bitLen x.toNat : Int))) ∧ w' = w := Any.bits_LeadingZeros64 Tryd.lays134 x w h0 h1
def Tryd.lays264_ren : Go.Shelf.Ren := ⟨fun | 264 => 114 | n => n, fun | 53 => 59 | 46 => 93 | n => n, fun | n => n⟩
theorem Tryd.lays264 : Go.Proofs.Lays.n264 Tryd.prog Tryd.lays264_ren := {
 mixed := by kernel_rfl
 f264 := Tryd.func114.trans (congrArg some (by kernel_rfl))
 t46 := Tryd.underlying93
 a46 := Tryd.isAgg93
 z46 := Tryd.sizeOf93
 v46 := Tryd.zeroValue93
 t53 := Tryd.underlying59
 a53 := Tryd.isAgg59
 z53 := Tryd.sizeOf59
 v53 := Tryd.zeroValue59 }
open Go.RowKit Go.Lib in
theorem Tryd.bits_Mul64 (x y : Nat) (hx : x < 18446744073709551616) (hy : y < 18446744073709551616) (w : World) :
  Calls Tryd.prog 114 #[.int .u64 x, .int .u64 y] w fun e w' => e = .returned (.tuple #[.int .u64 ((x * y / 18446744073709551616 : Nat) : Int), .int .u64 ((x * y % 18446744073709551616 : Nat) : Int)]) ∧ w' = w := Any.bits_Mul64 Tryd.lays264 x y hx hy w
end Go.Proofs
namespace Go.Proofs.YtodhkpdcpneeeaaDoor.Mine
open Go.RowKit Go.Proofs.YtodhkpdcpneeeaaDoorW.PrintWords Go.Proofs.YtodhkpdcpneeeaaDoorW.PrintLast Go.Proofs.YtodhkpdcpneeeaaDoorW.PrintMore
def joined (l : List ByteArray) (s : ByteArray) : ByteArray := ⟨(Lib.join (l.map (·.data.toList)) s.data.toList).toArray⟩
def strings_Join.f (l : List ByteArray) (s : ByteArray) : Option ByteArray := if (joined l s).size ≤ 140737488355328 ∧ l.length ≤ 140737488355328 then some (joined l s) else none
theorem string_place {w : World} {A : Option Addr} {l : List ByteArray} (h : Kd.C Kd.string w A l.length l) (hl : l ≠ []) :
  ∃ bk o, A = some ⟨bk, o, none⟩ ∧ bk < w.heap.size ∧ ∀ (j : Nat) x, l[j]? = some x → w.cell? ⟨bk, o + j, none⟩ = some (.string x) := by
 have h0 : 0 < l.length := List.length_pos_iff.2 hl
 obtain ⟨ad, rfl, hc⟩ := h.2.2 h0
 obtain ⟨bk, o, sp⟩ := ad
 have key : ∀ (j : Nat) x, l[j]? = some x → w.cell? ((⟨bk, o, sp⟩ : Addr).add j) = some (.string x) := by
  intro j x hj
  obtain ⟨c, hlen, hK, hcell⟩ := hc j x hj
  have hK' : c = [.string x] := hK
  subst hK'
  have := hcell 0 _ rfl
  rwa [show j * Kd.string.sz + 0 = j from by show j * 1 + 0 = j; omega] at this
 have hsp : sp = none := by
  have := key 0 _ (List.getElem?_eq_getElem h0)
  simp only [Addr.add, if_true] at this
  unfold World.cell? at this
  split at this
  ·split at this
   ·cases this
   cases sp with
   | none => rfl
   | some s => simp_all
  cases this
 subst hsp
 have key2 : ∀ (j : Nat) x, l[j]? = some x → w.cell? ⟨bk, o + j, none⟩ = some (.string x) := by
  intro j x hj
  have := key j x hj
  simp only [Addr.add] at this
  split at this
  ·rename_i h; subst h; exact this
  exact this
 exact ⟨bk, o, rfl, World.block_lt_of_cell? w _ (key2 0 _ (List.getElem?_eq_getElem h0)), key2⟩
theorem strings_Join.calls (A0 : Option Addr) (c0 : Nat) (l0 : List ByteArray) (a1 : ByteArray) (r : ByteArray) (w : World) (hr0 : Kd.C Kd.string w A0 l0.length l0) (hc0 : l0.length ≤ c0) (h : strings_Join.f l0 a1 = some r) :
  Calls Tryd.prog 72 #[.slice A0 l0.length c0, .string a1] w fun e w' => e = .returned (.string r) ∧ Below w.heap.size w w' := by
 unfold strings_Join.f at h
 split at h
 ·rename_i hb
  obtain rfl := Option.some.inj h
  rcases Classical.em (l0 = []) with e | e
  ·subst e
   refine (Tryd.strings_Join_none A0 c0 a1 w).mono ?_
   rintro e w' ⟨rfl, rfl⟩
   exact ⟨rfl, Below.refl _ _⟩
  obtain ⟨bk, o, rfl, hlt, hcells⟩ := string_place hr0 e
  exact Tryd.strings_Join bk o c0 l0 a1 w hcells hlt hb.2 hc0 (by simpa [joined, ByteArray.size] using hb.1)
 cases h
end Go.Proofs.YtodhkpdcpneeeaaDoor.Mine
namespace Go.Proofs.YtodhkpdcpneeeaaDoor.Mine
open Go.RowKit Go.Proofs.YtodhkpdcpneeeaaDoorW.PrintWords Go.Proofs.YtodhkpdcpneeeaaDoorW.PrintLast Go.Proofs.YtodhkpdcpneeeaaDoorW.PrintMore
def bits_LeadingZeros64.f (x : Int) : Option Int := if 0 ≤ x ∧ x ≤ 18446744073709551615 then some (64 - (Lib.bitLen x.toNat : Int)) else none
theorem bits_LeadingZeros64.calls (a0 : Int) (r : Int) (w : World) (h : bits_LeadingZeros64.f a0 = some r) :
  Calls Tryd.prog 112 #[.int .u64 a0] w fun e w' => e = .returned (.int .i64 r) ∧ Drawn0 w w' := by
 unfold bits_LeadingZeros64.f at h
 split at h
 ·rename_i hc
  obtain rfl := Option.some.inj h
  refine (Tryd.bits_LeadingZeros64 a0 w hc.1 hc.2).mono ?_
  rintro e w' ⟨rfl, rfl⟩
  exact ⟨rfl, Drawn0.refl _⟩
 cases h
end Go.Proofs.YtodhkpdcpneeeaaDoor.Mine
namespace Go.Proofs.YtodhkpdcpneeeaaDoor.Mine
open Go.RowKit Go.Proofs.YtodhkpdcpneeeaaDoorW.PrintWords Go.Proofs.YtodhkpdcpneeeaaDoorW.PrintLast Go.Proofs.YtodhkpdcpneeeaaDoorW.PrintMore
class Up (W W' : World) : Prop where
 below : Below W.heap.size W W'
instance Up.rfl_ {W : World} : Up W W := ⟨Below.refl _ _⟩
instance Up.alloc_ {W W' : World} [h : Up W W'] (o : Obj) : Up W (W'.alloc o) := ⟨h.below.alloc h.below.size o⟩
instance Up.drewN_ {W W' : World} [h : Up W W'] (n : Nat) : Up W (W'.drewN n) := ⟨pw_below_drewN h.below n⟩
instance Up.drew_ {W W' : World} [h : Up W W'] : Up W W'.drew := ⟨below_drew h.below⟩
section
variable {w W W' w1 : World} {g g' k : Nat} {o : Obj} [u : Up W W']
include u
theorem kbu (h : W.heap[g]? = some o) : W'.heap[g]? = some o := blk_below h u.below
theorem khu (h : Below w.heap.size w W) : Below w.heap.size w W' := h.trans (u.below.mono h.size)
theorem kbb (h : Aside0 (W.heap[g]? = some o)) (hb : Below W'.heap.size W' w1) : Aside0 (w1.heap[g]? = some o) := ⟨blk_below (kbu h.out) hb⟩
theorem kbs (h : Aside0 (Below w.heap.size w W)) (hb : Below W'.heap.size W' w1) : Aside0 (Below w.heap.size w w1) := ⟨below_step (khu h.out) hb⟩
theorem kbz (hg : g' = W'.heap.size) (h : Aside0 (Below w.heap.size w W)) : Aside0 (w.heap.size ≤ g') := ⟨by rw [hg]; exact below_size (khu h.out)⟩
theorem knl (hg : g' = W'.heap.size) (h : Aside0 (W.heap[g]? = some o)) : Aside0 (g ≠ g') := ⟨by rw [hg]; exact Nat.ne_of_lt (blk_lt (kbu (W' := W') h.out))⟩
theorem kng (hg : g' = W'.heap.size) (h : Aside0 (W.heap[g]? = some o)) : Aside0 (g' ≠ g) := ⟨by rw [hg]; exact Nat.ne_of_gt (blk_lt (kbu (W' := W') h.out))⟩
theorem kfb (h : Aside0 (W.heap[g]? = some o)) (hn : W'.heap.size ≤ k) : k ≠ g := Kd.freshB (kbu h.out) k hn
theorem koe (hw : Aside0 (w.heap.size ≤ g)) (h : Aside0 (W.heap[g]? = some o)) (hk : k < w.heap.size ∨ W'.heap.size ≤ k) : k ≠ g := Or.elim hk (fun hs e => Nat.not_le.2 hs (by rw [e]; exact hw.out)) (fun hn => kfb h hn)
variable {α : Type} {d : Kd α} {e base n : Nat} {ok : Nat → Prop} {v : Value} {xs : List α} {A : Option Addr}
theorem kvu (h : Kd.V d e W base ok v xs) : Kd.V d e W' base ok v xs := Kd.V_below h u.below
theorem kvb (h : Aside0 (Kd.V d e W base ok v xs)) (hb : Below W'.heap.size W' w1) : Aside0 (Kd.V d e w1 base ok v xs) := ⟨Kd.V_below (kvu h.out) hb⟩
theorem kru (h : d.R e W base ok v xs) : d.R e W' base ok v xs := Kd.R_below h u.below
theorem krb (h : Aside0 (d.R e W base ok v xs)) (hb : Below W'.heap.size W' w1) : Aside0 (d.R e w1 base ok v xs) := ⟨Kd.R_below (kru h.out) hb⟩
end
end Go.Proofs.YtodhkpdcpneeeaaDoor.Mine
namespace Go.Proofs.YtodhkpdcpneeeaaDoor.Mine
open Go Go.RowKit Go.Proofs.YtodhkpdcpneeeaaDoorW.PrintWords Go.Proofs.YtodhkpdcpneeeaaDoorW.PrintLast Go.Proofs.YtodhkpdcpneeeaaDoorW.PrintMore
def bmL : Nat → Nat → List Bool
  | 0, _ => []
  | n + 1, m => Nat.beq (Nat.mod m 2) 1 :: bmL n (Nat.div m 2)
def bm_ (n m : Nat) : Array Bool := ⟨bmL n m⟩
section
variable {P : Program} {ops : Array Oper} {Q : Exit → Act → World → Prop} {md : Region.Mode} {S : World → Prop} {ds : List Nat}
theorem pu_ {oi : Oper} {fuel : Nat} {l : Array Bool} {a : Act} {w : World} (i : Nat) (N : Tmp) (v : Value) (l' : Array Bool) (hi : ops[i]? = some oi) (hN : oi.dst = some N) (hc : anyB md ops l l' i = true)
 (hQ : ∀ c a w, Q (.panic c) (a.put oi.dst v) w → Q (.panic c) a w) (h1 : Region.wanted oi (yielded ops a.tmps) = true) (h2 : ∀ w, (execOp a.eval oi).run P w = .ok (.value v) w) (a' : Act) (ha : a.put (some N) v = a')
 (h : wpAnyLast P md ops Q S ds fuel l' a' w) : wpAnyLast P md ops Q S ds (fuel + 1) l a w := pure_ l' hi hN hc hQ (Or.inl ⟨h1, h2⟩) ha h
theorem tk_ {oi : Oper} {fuel : Nat} {l : Array Bool} {a : Act} {w : World} (i : Nat) (N : Tmp) (v : Value) (l' : Array Bool) (hi : ops[i]? = some oi) (hN : oi.dst = some N) (hc : takeB md ops ds l l' i = true)
 (hQ : ∀ c a w, Q (.panic c) (a.put oi.dst v) w → Q (.panic c) a w) (h1 : Region.wanted oi (yielded ops a.tmps) = true) (h2 : ∀ w, S w → (execOp a.eval oi).run P w = .ok (.value v) w) (hS : S w) (a' : Act) (ha : a.put (some N) v = a')
 (h : wpAnyLast P md ops Q S ds fuel l' a' w) : wpAnyLast P md ops Q S ds (fuel + 1) l a w := take_ l' hi hN hc hQ (Or.inl ⟨h1, h2⟩) hS ha h
theorem gd {rest : List Oper} {o : Oper} {a : Act} {W : World} (N : Tmp) (_hN : o.dst = some N) (h : wpList P ops Q (o :: rest) a W) : wpList P ops Q (o :: rest) a W := h
theorem gs {rest : List Oper} {o : Oper} {a : Act} {W : World} (t : TypeId) (p v : Tmp) (_ho : o.op = .store t (.tmp p) (.tmp v)) (h : wpList P ops Q (o :: rest) a W) : wpList P ops Q (o :: rest) a W := h
end
theorem hv.{u} {α : Type u} {l l' m : List α} {n : Nat} {x : Option α} (h : Aside0 (l = l')) (e : (l' ++ m)[n]? = x) : (l ++ m)[n]? = x := by rw [h.out]; exact e
theorem lb {a b : Nat} (h : Nat.ble a b = true) : a ≤ b := Nat.le_of_ble_eq_true h
theorem kss {α : Type} : (∀ (xs : List α) (i : Nat) (a : α), xs.toArray.setIfInBounds i a = (xs.set i a).toArray) ∧ (∀ (xs : List α) (x a : α), (x :: xs).set 0 a = a :: xs) ∧ (∀ (xs : List α) (x a : α) (i : Nat), (x :: xs).set (i + 1) a = x :: xs.set i a) :=
 ⟨fun _ _ _ => by simp, fun _ _ _ => rfl, fun _ _ _ _ => rfl⟩
section
variable {P : Program} {ops : Array Oper} {Q : Exit → Act → World → Prop} {md : Region.Mode} {S : World → Prop} {ds : List Nat}
theorem kgo {oi : Oper} {N : Option Tmp} {a : Act} {w : World} {K : Act → World → Prop} {f : FuncId} {fn : Func} {ar : Array Operand} {ts : Array TypeId} (hf : P.funcs[f]? = some fn) (args : Array Value)
  (hw : Region.wanted oi (yielded ops a.tmps) = true) (hN : oi.dst = N) (hop : oi.op = .call { callee := .value (.func f), args := ar, argTypes := ts })
  (h : Calls P f args w fun e w' => ∃ v, e = .returned v ∧ K (a.put N v) w') (hargs : ar.map a.eval = args := by (try simp only [List.map_toArray, List.map_cons, List.map_nil]); first | done | rfl | (simp only [List.length_drop, List.length_take]; rfl)) (hname : (fn.name == "runtime.NumGoroutine") = false := by kernel_rfl) (hb : fn.body.isSome = true := by rfl) : if Region.wanted oi (yielded ops a.tmps) = true then Oper.wp P oi a w K Q else K (a.put N undef) w :=
 goes_ hf hname hb args hw hN hop hargs h
theorem kgl {rest : List Oper} {oi : Oper} {a : Act} {w : World} (N : Option Tmp) (hd : oi.dst = N) (hg : oi.guard = none) {f : FuncId} {fn : Func} {ar : Array Operand} {ts : Array TypeId} (hf : P.funcs[f]? = some fn) (args : Array Value)
  (hop : oi.op = .call { callee := .value (.func f), args := ar, argTypes := ts })
  (h : Calls P f args w fun e w' => ∃ v, e = .returned v ∧ wpList P ops Q rest (a.put N v) w') (hargs : ar.map a.eval = args := by (try simp only [List.map_toArray, List.map_cons, List.map_nil]); first | done | rfl | (simp only [List.length_drop, List.length_take]; rfl)) (hname : (fn.name == "runtime.NumGoroutine") = false := by kernel_rfl) (hb : fn.body.isSome = true := by rfl) : wpList P ops Q (oi :: rest) a w :=
 goesL_ N hd hg hf hname hb args hop hargs h
theorem kbe {rest : List Oper} {o : Oper} {a : Act} {W : World} (N : Tmp) (cs : Array Value) (t : TypeId)
  (h : ∀ g, g = W.heap.size → ∀ w1, w1.heap[g]? = some (.cells cs t (0, 0)) → Below W.heap.size W w1 → wpList P ops Q rest (a.put o.dst (.pointer (some ⟨g, 0, none⟩))) w1)
  (hd : o.dst = some N := by rfl) (hgd : o.guard = none := by rfl) (hrun : (execOp a.eval o).run P W = .ok (.value (.pointer (some ⟨W.heap.size, 0, none⟩))) (W.alloc (.cells cs t (0, 0))) := by first | (go_simp; done) | (go_simp; rfl)) : wpList P ops Q (o :: rest) a W :=
 box_event hgd hd hrun h
end
class UpO (W : outParam World) (W' : World) : Prop where
 below : Below W.heap.size W W'
instance (priority := low) UpO.rfl_ {W : World} : UpO W W := ⟨Below.refl _ _⟩
instance UpO.alloc_ {W W' : World} [h : UpO W W'] (o : Obj) : UpO W (W'.alloc o) := ⟨h.below.alloc h.below.size o⟩
instance UpO.drewN_ {W W' : World} [h : UpO W W'] (n : Nat) : UpO W (W'.drewN n) := ⟨pw_below_drewN h.below n⟩
instance UpO.drew_ {W W' : World} [h : UpO W W'] : UpO W W'.drew := ⟨below_drew h.below⟩
theorem kfa {W W' : World} [u : UpO W W'] {g : Nat} {t : TypeId} {cs : Array Value} {p : Addr} {v : Value} (hp : Aside0 (g ≠ p.block)) (h : W.heap[g]? = some (.cells cs t (0, 0))) : (W'.setCell p v).heap[g]? = some (.cells cs t (0, 0)) := blk_far (blk_below h u.below) hp.out v
theorem kpu {W W' : World} [u : UpO W W'] {g : Nat} {t : TypeId} (cs : Array Value) {cs' : Array Value} (i : Nat) {v : Value} (h : W.heap[g]? = some (.cells cs t (0, 0))) (e : cs.setIfInBounds i v = cs' := by rfl) : (W'.setCell ⟨g, i, none⟩ v).heap[g]? = some (.cells cs' t (0, 0)) := blk_put (blk_below h u.below) i v e
end Go.Proofs.YtodhkpdcpneeeaaDoor.Mine
namespace Go.Proofs.YtodhkpdcpneeeaaDoor.PDv
open Go.RowKit Go.Proofs.YtodhkpdcpneeeaaDoorW.PrintWords Go.Proofs.YtodhkpdcpneeeaaDoorW.PrintLast Go.Proofs.YtodhkpdcpneeeaaDoorW.PrintMore
open Go.Proofs.YtodhkpdcpneeeaaDoor.Mine
attribute [local go_sem] max2_int min2_int max_two min_two max_three min_three max_four min_four
def errW : Option Int → Value
 | none => .nilIface
 | some c => .iface 0 (.int .i64 c)
theorem errW_none : errW none = .nilIface := rfl
theorem errW_some (c : Int) : errW (some c) = .iface 0 (.int .i64 c) := rfl
theorem info9 : (Tryd.prog.info? 9).map (fun i => (i.zero, i.size, i.bytes)) = some (some (.string ⟨#[]⟩), 1, 16) := by kernel_rfl
theorem info59 : (Tryd.prog.info? 59).map (fun i => (i.zero, i.size, i.bytes)) = some (some (.int .u64 0), 1, 8) := by kernel_rfl
theorem info94 : (Tryd.prog.info? 94).map (fun i => (i.zero, i.size, i.bytes)) = some (some (.int .u16 0), 1, 2) := by kernel_rfl
def whole_amount_null.f (l0 : List Int) : Option (Bool) := some ((l0.length : Int) == 0)
theorem whole_amount_null.calls (A0 : Option Addr) (c0 : Nat) (l0 : List Int) (r : Bool) (w : World) (hr0 : Kd.C (Kd.int .u64) w A0 l0.length l0) (hc0 : l0.length ≤ c0) (h : whole_amount_null.f l0 = some r) :
  Calls Tryd.prog 57 #[.slice A0 l0.length c0] w fun e w' => e = .returned (.bool r) ∧ Drawn0 w w' := by
 have HR0 := Aside0.mk hr0
 have HC0 := Aside0.mk hc0
 clear hr0 hc0
 have H : (some ((l0.length : Int) == 0)) = some r := h
 clear h
 obtain rfl := Option.some.inj H
 go_enter Tryd.func57, Tryd.ntmps57
 go_wp2
 go_ret
 exact ⟨by first | rfl | (simp; done) | (simp [*]; done), by repeat (first | exact Drawn0.refl _ | apply Drawn0.step)⟩
def whole_trimmed.l0 : Nat → List Int → Int → Option (List Int)
 | 0, _, _ => none
 | k + 1, x0, x3 => if x3 > 0 then (if 0 ≤ (wrap64 (x3 - 1)) then (if (wrap64 (x3 - 1)) < (x0.length : Int) then (if (rd x0 (wrap64 (x3 - 1))) = 0 then (whole_trimmed.l0 k x0 (wrap64 (x3 - 1))) else (if 0 ≤ x3 then (if x3 ≤ (x0.length : Int) then (some (x0.take (x3 : Int).toNat)) else (none)) else (none))) else (none)) else (none)) else (if 0 ≤ x3 then (if x3 ≤ (x0.length : Int) then (some (x0.take (x3 : Int).toNat)) else (none)) else (none))
def whole_trimmed.f (k : Nat) (l0 : List Int) : Option (List Int) := whole_trimmed.l0 k l0 (l0.length : Int)
theorem whole_trimmed.mono_l : ∀ k, (∀ y0 y1, LeO (whole_trimmed.l0 k y0 y1) (whole_trimmed.l0 (k + 1) y0 y1))
 | 0 => fun _ _ r h => by simp [whole_trimmed.l0] at h
 | k + 1 => by
  have ih0 := whole_trimmed.mono_l k
  intro y0 y1
  unfold whole_trimmed.l0
  repeat' first
  | (with_reducible exact ih0 _ _)
  | (with_reducible exact LeO.refl _)
  | (with_reducible exact LeO.none _)
  | (with_reducible refine LeO.ite ?_ ?_)
  | (with_reducible refine LeO.bind ?_ (fun _ => ?_))
  | exact ih0 _ _
  | exact LeO.none _
  | refine LeO.ite ?_ ?_
  | refine LeO.bind ?_ (fun _ => ?_)
theorem whole_trimmed.mono : ∀ a0 k, LeO (whole_trimmed.f k a0) (whole_trimmed.f (k + 1) a0) := by
 intro a0 k
 have ih0 := whole_trimmed.mono_l k
 unfold whole_trimmed.f
 repeat' first
   | (with_reducible exact ih0 _ _)
   | (with_reducible exact LeO.refl _)
   | (with_reducible exact LeO.none _)
   | (with_reducible refine LeO.ite ?_ ?_)
   | (with_reducible refine LeO.bind ?_ (fun _ => ?_))
   | exact ih0 _ _
   | exact LeO.none _
   | refine LeO.ite ?_ ?_
   | refine LeO.bind ?_ (fun _ => ?_)
theorem whole_trimmed.calls (k : Nat) (P0_ : Nat → Prop) (A0 : Option Addr) (c0 : Nat) (l0 : List Int) (r : List Int) (w : World) (hs0 : Kd.V (Kd.int .u64) 59 w w.heap.size (fun k_ => P0_ k_) (.slice A0 l0.length c0) l0) (h : whole_trimmed.f k l0 = some r) :
  Calls Tryd.prog 83 #[.slice A0 l0.length c0] w fun e w' => ∃ v0_ : Value, e = .returned (v0_) ∧ Kd.V (Kd.int .u64) 59 w' w.heap.size (fun k_ => (P0_ k_ ∨ w.heap.size ≤ k_)) v0_ r ∧ Below w.heap.size w w' := by
 have HO0 := Aside0.mk (show Kd.V (Kd.int .u64) 59 w w.heap.size (fun k_ => (P0_ k_ ∨ w.heap.size ≤ k_)) (.slice A0 l0.length c0) l0 from Kd.V_mono hs0 (fun k_ hk => .inl hk))
 have HB := Aside0.mk (Below.refl w.heap.size w)
 have H : (whole_trimmed.l0 k l0 (l0.length : Int)) = some r := h
 clear h
 have H' := Aside0.mk H
 clear H
 go_enter Tryd.func83, Tryd.ntmps83
 go_wp2
 go_loopg [3] k (fun kq v3 w' => ∃ (x3_1 : Int), v3 = .int .i64 x3_1 ∧ Aside0 (whole_trimmed.l0 kq l0 x3_1 = some r) ∧ Aside0 (kq ≤ k) ∧ Aside0 (Kd.V (Kd.int .u64) 59 w' w.heap.size (fun k_ => (P0_ k_ ∨ w.heap.size ≤ k_)) (.slice A0 l0.length c0) l0) ∧ Aside0 (Below w.heap.size w w'))
 case atStart => exact ⟨((l0.length : Int)), (by first | rfl | (simp; done) | (simp [*]; done)), H', ⟨Nat.le_refl _⟩, ⟨kvu HO0.out⟩, ⟨khu HB.out⟩⟩
 case round =>
  clear H'
  obtain ⟨x3_1, rfl, HA, HK1, HO_0, HB⟩ := hrel
  cases gk with
  | zero => exact absurd HA.out (by simp [whole_trimmed.l0])
  | succ k1 =>
   have H := HA.out
   clear HA
   simp only [whole_trimmed.l0] at H
   by_cases c2 : x3_1 > 0
   ·rw [if_pos c2] at H
    have c2b0 : decide (0 < x3_1) = true := decide_eq_true c2
    clear c2
    obtain ⟨ji3, hji3⟩ : ∃ j_ : Int, (wrap64 (x3_1 - 1)) = j_ := ⟨_, rfl⟩
    replace H : (if 0 ≤ (ji3) then (if (ji3) < (l0.length : Int) then (if (rd l0 (ji3)) = 0 then (whole_trimmed.l0 k1 l0 ji3) else (if 0 ≤ x3_1 then (if x3_1 ≤ (l0.length : Int) then (some (l0.take (x3_1 : Int).toNat)) else (none)) else (none))) else (none)) else (none)) = some r := by first | (rw [hji3] at H; exact H) | (simp only [hji3] at H ⊢; exact H)
    have hji3w : (IntKind.i64.wrap (x3_1 - 1)) = ji3 := (i64_w _).trans hji3
    by_cases c4 : 0 ≤ (ji3)
    ·rw [if_pos c4] at H
     have c4b0 : decide (0 ≤ (ji3)) = true := decide_eq_true c4
     clear c4
     by_cases c5 : (ji3) < (l0.length : Int)
     ·rw [if_pos c5] at H
      have c5b0 : decide ((ji3) < (l0.length : Int)) = true := decide_eq_true c5
      clear c5
      by_cases c6 : (rd l0 (ji3)) = 0
      ·rw [if_pos c6] at H
       have c6b0 : ((rd l0 (ji3)) == 0) = true := beq_iff_eq.mpr c6
       have c6b1 : ((rd l0 (ji3)) != 0) = false := bne_eq_false_iff_eq.mpr c6
       clear c6
       have H' := Aside0.mk H
       clear H
       have p101 : 0 ≤ ((ji3) : Int) := of_decide_eq_true ‹_›
       have q101 : (ji3) < (l0.length : Int) := of_decide_eq_true ‹_›
       obtain ⟨ad101, e101, hx101_0⟩ := Kd.at_int (Kd.V_reads' HO_0.out).2.2 (ji3) p101 q101
       cases e101
       replace p101 := eq_true p101
       replace q101 := eq_true q101
       go_wp2
       go_roundg k1
       case measure => have := HK1.out; omega
       case rel => exact ⟨(ji3), (by first | rfl | (simp; done) | (simp only [← hji3] <;> (first | rfl | simp)) | (simp [*]; done)), H', ⟨by have := HK1.out; omega⟩, ⟨kvu HO_0.out⟩, ⟨khu HB.out⟩⟩
      rw [if_neg c6] at H
      have c6b0 : ((rd l0 (ji3)) == 0) = false := beq_eq_false_iff_ne.mpr c6
      have c6b1 : ((rd l0 (ji3)) != 0) = true := bne_iff_ne.mpr c6
      by_cases c7 : 0 ≤ x3_1
      ·rw [if_pos c7] at H
       have c7b0 := eq_true c7
       have c7b1 : decide (0 ≤ x3_1) = true := decide_eq_true c7
       clear c7
       by_cases c8 : x3_1 ≤ (l0.length : Int)
       ·rw [if_pos c8] at H
        have c8b0 := eq_true c8
        have c8b1 : decide (x3_1 ≤ (l0.length : Int)) = true := decide_eq_true c8
        clear c8
        obtain ⟨y102, hy102⟩ : ∃ y_ : List Int, y_ = (l0.take (x3_1 : Int).toNat) := ⟨_, rfl⟩
        replace H : (some y102) = some r := by first | (rw [hy102]; with_reducible exact H) | (have H2_ := (Option.bind_some _ _).symm.trans H; rw [hy102]; with_reducible exact H2_) | (have H2_ := (Option.bind_some _ _).symm.trans H; with_reducible exact H2_) | with_reducible exact H | (rw [hy102]; exact H) | exact H
        have Ny102 := Aside0.mk hy102
        clear hy102
        obtain rfl := Option.some.inj H
        have p101 : 0 ≤ ((ji3) : Int) := of_decide_eq_true ‹_›
        have q101 : (ji3) < (l0.length : Int) := of_decide_eq_true ‹_›
        obtain ⟨ad101, e101, hx101_0⟩ := Kd.at_int (Kd.V_reads' HO_0.out).2.2 (ji3) p101 q101
        cases e101
        replace p101 := eq_true p101
        replace q101 := eq_true q101
        have q9 : (x3_1 : Int) ≤ ((l0.length : Int) : Int) := of_decide_eq_true ‹_›
        obtain ⟨i09, hi09, _, hsz9, _⟩ := info_parts info59
        have hroom9 : l0.length ≤ c0 := (Kd.V_reads' HO_0.out).2.1
        have hC9 : Kd.F (Kd.int .u64) _ _ (some ad101) l0.length l0 := (Kd.V_at (base := w.heap.size) HO_0.out).2.2
        have hcut9 := cut_to (P := Tryd.prog) 22 59 .i64 Tryd.underlying22 hi09 (some ad101) l0.length c0 x3_1 (of_decide_eq_true ‹_›) q9 hroom9
        have hr9 := Kd.F_take (m := (x3_1 : Int).toNat) hC9 (by omega)
        have hy9 : y102.length = (x3_1 : Int).toNat := (by rw [Ny102.out, List.length_take]; omega)
        rw [← Ny102.out] at hr9
        rw [← hy9] at hcut9
        have HO106 := Aside0.mk (show Kd.V (Kd.int .u64) 59 _ w.heap.size _ (.slice (some ad101) y102.length c0) y102 from Kd.V_mk (by omega) hr9)
        have HC106 := Aside0.mk (show y102.length ≤ c0 from by omega)
        clear hr9 hC9 hroom9 hi09 hsz9
        have KY9 := Aside0.mk hy9
        clear hy9
        replace q9 := eq_true q9
        go_wp2
        go_ret
        exact ⟨_, by first | rfl | (simp [errW_none, errW_some] <;> rfl) | (simp only [← hji3]; first | rfl | (simp [errW_none, errW_some] <;> rfl)) | (simp [*, errW_none, errW_some] <;> rfl), kvu HO106.out, khu HB.out⟩
       rw [if_neg c8] at H
       exact absurd H (by simp)
      rw [if_neg c7] at H
      exact absurd H (by simp)
     rw [if_neg c5] at H
     exact absurd H (by simp)
    rw [if_neg c4] at H
    exact absurd H (by simp)
   rw [if_neg c2] at H
   have c2b0 : decide (0 < x3_1) = false := decide_eq_false c2
   clear c2
   by_cases c10 : 0 ≤ x3_1
   ·rw [if_pos c10] at H
    have c10b0 := eq_true c10
    have c10b1 : decide (0 ≤ x3_1) = true := decide_eq_true c10
    clear c10
    by_cases c11 : x3_1 ≤ (l0.length : Int)
    ·rw [if_pos c11] at H
     have c11b0 := eq_true c11
     have c11b1 : decide (x3_1 ≤ (l0.length : Int)) = true := decide_eq_true c11
     clear c11
     obtain ⟨y107, hy107⟩ : ∃ y_ : List Int, y_ = (l0.take (x3_1 : Int).toNat) := ⟨_, rfl⟩
     replace H : (some y107) = some r := by first | (rw [hy107]; with_reducible exact H) | (have H2_ := (Option.bind_some _ _).symm.trans H; rw [hy107]; with_reducible exact H2_) | (have H2_ := (Option.bind_some _ _).symm.trans H; with_reducible exact H2_) | with_reducible exact H | (rw [hy107]; exact H) | exact H
     have Ny107 := Aside0.mk hy107
     clear hy107
     obtain rfl := Option.some.inj H
     have q12 : (x3_1 : Int) ≤ ((l0.length : Int) : Int) := of_decide_eq_true ‹_›
     obtain ⟨i012, hi012, _, hsz12, _⟩ := info_parts info59
     have hroom12 : l0.length ≤ c0 := (Kd.V_reads' HO_0.out).2.1
     have hC12 : Kd.F (Kd.int .u64) _ _ A0 l0.length l0 := (Kd.V_at (base := w.heap.size) HO_0.out).2.2
     have hcut12 := cut_to (P := Tryd.prog) 22 59 .i64 Tryd.underlying22 hi012 A0 l0.length c0 x3_1 (of_decide_eq_true ‹_›) q12 hroom12
     have hr12 := Kd.F_take (m := (x3_1 : Int).toNat) hC12 (by omega)
     have hy12 : y107.length = (x3_1 : Int).toNat := (by rw [Ny107.out, List.length_take]; omega)
     rw [← Ny107.out] at hr12
     rw [← hy12] at hcut12
     have HO111 := Aside0.mk (show Kd.V (Kd.int .u64) 59 _ w.heap.size _ (.slice A0 y107.length c0) y107 from Kd.V_mk (by omega) hr12)
     have HC111 := Aside0.mk (show y107.length ≤ c0 from by omega)
     clear hr12 hC12 hroom12 hi012 hsz12
     have KY12 := Aside0.mk hy12
     clear hy12
     replace q12 := eq_true q12
     go_wp2
     go_ret
     exact ⟨_, by first | rfl | (simp [*, errW_none, errW_some] <;> rfl), kvu HO111.out, khu HB.out⟩
    rw [if_neg c11] at H
    exact absurd H (by simp)
   rw [if_neg c10] at H
   exact absurd H (by simp)
def whole_of.f (k : Nat) (a0_0 : Bool) (l0_1 : List Int) : Option (List Int × Bool) := (whole_trimmed.f k l0_1).bind fun t114 => (if a0_0 = true then ((whole_amount_null.f t114).bind fun t117 => (some (t114, !t117))) else (some (t114, false)))
theorem whole_of.mono : ∀ a0 a1 k, LeO (whole_of.f k a0 a1) (whole_of.f (k + 1) a0 a1) := by
 intro a0 a1 k
 unfold whole_of.f
 repeat' first
   | (with_reducible exact whole_trimmed.mono _ _)
   | (with_reducible exact LeO.refl _)
   | (with_reducible exact LeO.none _)
   | (with_reducible refine LeO.ite ?_ ?_)
   | (with_reducible refine LeO.bind ?_ (fun _ => ?_))
   | exact whole_trimmed.mono _ _
   | exact LeO.none _
   | refine LeO.ite ?_ ?_
   | refine LeO.bind ?_ (fun _ => ?_)
theorem whole_of.calls (k : Nat) (a0_0 : Bool) (P0_1_ : Nat → Prop) (A0_1 : Option Addr) (c0_1 : Nat) (l0_1 : List Int) (r1 : List Int) (r2 : Bool) (w : World) (hs0_1 : Kd.V (Kd.int .u64) 59 w w.heap.size (fun k_ => P0_1_ k_) (.slice A0_1 l0_1.length c0_1) l0_1) (h : whole_of.f k a0_0 l0_1 = some (r1, r2)) :
  Calls Tryd.prog 56 #[.agg #[.bool a0_0, .slice A0_1 l0_1.length c0_1]] w fun e w' => ∃ v0_ : Value, e = .returned (.agg #[v0_, .bool r2]) ∧ Kd.V (Kd.int .u64) 59 w' w.heap.size (fun k_ => (P0_1_ k_ ∨ w.heap.size ≤ k_)) v0_ r1 ∧ Below w.heap.size w w' := by
 have hu25 := Tryd.underlying25
 have hu62 := Tryd.underlying62
 have HO0_1 := Aside0.mk (show Kd.V (Kd.int .u64) 59 w w.heap.size (fun k_ => (P0_1_ k_ ∨ w.heap.size ≤ k_)) (.slice A0_1 l0_1.length c0_1) l0_1 from Kd.V_mono hs0_1 (fun k_ hk => .inl hk))
 have HB := Aside0.mk (Below.refl w.heap.size w)
 have H : ((whole_trimmed.f k l0_1).bind fun t114 => (if a0_0 = true then ((whole_amount_null.f t114).bind fun t117 => (some (t114, !t117))) else (some (t114, false)))) = some (r1, r2) := h
 clear h
 replace H := Option.bind_eq_some_iff.mp H
 obtain ⟨t114, A20, H⟩ := H
 replace H : (if a0_0 = true then ((whole_amount_null.f t114).bind fun t117 => (some (t114, !t117))) else (some (t114, false))) = some (r1, r2) := H
 have A2 := Aside0.mk A20
 clear A20
 by_cases c3 : a0_0 = true
 ·subst c3
  have H1 : ((whole_amount_null.f t114).bind fun t117 => (some (t114, !t117))) = some (r1, r2) := by rw [if_pos rfl] at H; exact H
  clear H
  have H := H1
  clear H1
  replace H := Option.bind_eq_some_iff.mp H
  obtain ⟨t117, A40, H⟩ := H
  replace H : (some (t114, !t117)) = some (r1, r2) := H
  have A4 := Aside0.mk A40
  clear A40
  simp only [Option.some.injEq, Prod.mk.injEq] at H
  obtain ⟨rfl, rfl⟩ := H
  go_enter Tryd.func56, Tryd.ntmps56
  go_wp2_with (first | (refine gd 1 rfl ?_; refine kbe 1 #[.bool true, .slice A0_1 l0_1.length c0_1] 25 ?_; intro gb112 hg w5 hbox hb; replace HO0_1 := Aside0.mk (Kd.V_below (Kd.V_elderB (kvu HO0_1.out) gb112 (Nat.le_of_eq hg.symm)) hb); have BK112 := Aside0.mk (hbox); have GW112 := kbz hg HB; have GE112 := kbz hg HB; replace HB := kbs HB hb; clear hb hbox hg) | (refine gd 2 rfl ?_; refine kbe 2 #[.slice none 0 0, .bool false] 62 ?_; intro gb113 hg w6 hbox hb; replace HO0_1 := Aside0.mk (Kd.V_below (Kd.V_elderB (kvu HO0_1.out) gb113 (Nat.le_of_eq hg.symm)) hb); have BK113 := Aside0.mk (hbox); have GW113 := kbz hg HB; have GE113 := kbz hg HB; replace HB := kbs HB hb; have NB112_113 := knl hg BK112; have NB113_112 := kng hg BK112; replace BK112 := kbb BK112 hb; clear hb hbox hg; have hnb7 := NB112_113.out; have hnc7 := NB113_112.out; have hcz8_0 : w6.cell? ⟨gb112, 0, none⟩ = some (.bool true) := (blk_cell BK112.out 0).trans rfl; have hcz8_1 : w6.cell? ⟨gb112, 1, none⟩ = some (.slice A0_1 l0_1.length c0_1) := (blk_cell BK112.out 1).trans rfl; have hfz8_0 := blk_frozen BK112.out 0; have hfz8_1 := blk_frozen BK112.out 1) | ((with_reducible refine gate_callee (f := 83) rfl ?_); refine kgl (some 6) rfl rfl Tryd.func83 #[.slice A0_1 l0_1.length c0_1] rfl ?_; (with_reducible refine (whole_trimmed.calls k (fun k_ => (((P0_1_ k_ ∨ w.heap.size ≤ k_) ∧ k_ ≠ gb112) ∧ k_ ≠ gb113)) _ _ l0_1 t114 _ ?side1 A2.out).mono ?_); (case side1 => exact HO0_1.out); rintro e w9 ⟨v115, rfl, ho0, hb⟩; refine ⟨_, rfl, ?_⟩; replace HO0_1 := kvb HO0_1 hb; have HO116 := Aside0.mk (Kd.V_lower (Kd.V_mono (ok' := fun k_ => (P0_1_ k_ ∨ w.heap.size ≤ k_) ∧ k_ ≠ gb112 ∧ k_ ≠ gb113) ho0 (fun k_ hk_ => ⟨Or.elim hk_ (fun hs_ => hs_.1.1) (fun hn_ => (.inr (Nat.le_trans (below_size (khu HB.out)) hn_))), Or.elim hk_ (fun hs_ => hs_.1.2) (kfb BK112), Or.elim hk_ (fun hs_ => hs_.2) (kfb BK113)⟩)) (below_size (khu HB.out))); replace BK112 := kbb BK112 hb; replace BK113 := kbb BK113 hb; replace HB := kbs HB hb; (try clear hb); (try clear hb2); (try clear hk); (try clear hi); (try clear ho0); have hcz10_0 : w9.cell? ⟨gb112, 0, none⟩ = some (.bool true) := (blk_cell BK112.out 0).trans rfl; have hcz10_1 : w9.cell? ⟨gb112, 1, none⟩ = some (.slice A0_1 l0_1.length c0_1) := (blk_cell BK112.out 1).trans rfl; have hfz10_0 := blk_frozen BK112.out 0; have hfz10_1 := blk_frozen BK112.out 1; obtain ⟨Ao11, co11, eo11⟩ := Kd.V_slice HO116.out; subst eo11) | (go_at_call 57; (with_reducible refine (whole_amount_null.calls _ _ t114 t117 _ ?side1 ?side2 A4.out).mono ?_); (case side1 => repeat (first | exact (Kd.V_reads' HO116.out).2.2 | (with_reducible refine Kd.C_alloc ?_ _) | (with_reducible refine Kd.C_drewN ?_ _) | (with_reducible refine Kd.C_drew ?_))); (case side2 => exact (Kd.V_reads' HO116.out).2.1); rintro e w' ⟨rfl, ⟨nd, rfl⟩⟩; (try (rw [drewN_self w9]; generalize hq_ : World.drewN w9 _ = w9; have n0_ : Aside0 (Kd.V (Kd.int .u64) 59 w9 w.heap.size (fun k_ => (P0_1_ k_ ∨ w.heap.size ≤ k_) ∧ k_ ≠ gb112 ∧ k_ ≠ gb113) (.slice A0_1 l0_1.length c0_1) l0_1) := ⟨by rw [← hq_]; exact (by (with_reducible repeat (first | apply Kd.V_alloc | apply Kd.V_drewN | apply Kd.V_drew)); exact Kd.V_mono HO0_1.out (fun _ hk => ⟨hk.1.1, ⟨hk.1.2, hk.2⟩⟩))⟩; have n1_ : Aside0 (Kd.V (Kd.int .u64) 59 w9 w.heap.size (fun k_ => (P0_1_ k_ ∨ w.heap.size ≤ k_) ∧ k_ ≠ gb112 ∧ k_ ≠ gb113) (.slice Ao11 t114.length co11) t114) := ⟨by rw [← hq_]; exact (kvu HO116.out)⟩; have n2_ : Aside0 (w9.heap[gb112]? = some (.cells #[.bool true, .slice A0_1 l0_1.length c0_1] 25 (0, 0))) := ⟨by rw [← hq_]; exact (kbu BK112.out)⟩; have n3_ : Aside0 (w9.heap[gb113]? = some (.cells #[.slice none 0 0, .bool false] 62 (0, 0))) := ⟨by rw [← hq_]; exact (kbu BK113.out)⟩; have n4_ : Aside0 (Below w.heap.size w w9) := ⟨by rw [← hq_]; exact (khu HB.out)⟩; clear HO0_1 HO116 BK112 BK113 HB hq_; have HO0_1 := n0_; have HO116 := n1_; have BK112 := n2_; have BK113 := n3_; have HB := n4_; clear n0_ n1_ n2_ n3_ n4_)); have hcz12_0 : w9.cell? ⟨gb113, 0, none⟩ = some (.slice none 0 0) := (blk_cell BK113.out 0).trans rfl; have hcz12_1 : w9.cell? ⟨gb113, 1, none⟩ = some (.bool false) := (blk_cell BK113.out 1).trans rfl; have hfz12_0 := blk_frozen BK113.out 0; have hfz12_1 := blk_frozen BK113.out 1))
  refine bodyPost_ret (results_cell_row rfl _ _ gb113 62 #[.slice Ao11 t114.length co11, .bool (!t117)] (0, 0) _ rfl (kpu #[.slice Ao11 t114.length co11, .bool false] 1 (kpu #[.slice none 0 0, .bool false] 0 (kbu BK113.out))) Tryd.underlying62 rfl (by kernel_rfl)) rfl ?_
  exact ⟨_, by first | rfl | (simp [*, errW_none, errW_some] <;> rfl), by (with_reducible repeat (first | apply Kd.V_alloc | apply Kd.V_drewN | apply Kd.V_drew)); exact Kd.V_mono (Kd.V_far (p := ⟨gb113, 1, none⟩) (Kd.V_far (p := ⟨gb113, 0, none⟩) (Kd.V_mono HO116.out (fun k_ hk => (⟨hk, hk.2.2⟩ : _ ∧ k_ ≠ gb113))) (fun _ hk => hk.2) (.slice Ao11 t114.length co11)) (fun _ hk => hk.2) (.bool (!t117))) (fun _ hk => hk.1.1), by repeat (first | (with_reducible first | exact HB.out | apply below_alloc | apply pw_below_drewN | apply below_drew1 | refine below_set ?_ GE112.out | refine below_set ?_ GE113.out) | exact HB.out)⟩
 replace c3 := Bool.eq_false_iff.mpr c3
 subst c3
 have H1 : (some (t114, false)) = some (r1, r2) := by rw [if_neg (show ¬ (false = true) by decide)] at H; exact H
 clear H
 have H := H1
 clear H1
 simp only [Option.some.injEq, Prod.mk.injEq] at H
 obtain ⟨rfl, rfl⟩ := H
 go_enter Tryd.func56, Tryd.ntmps56
 go_wp2_with (first | (refine gd 1 rfl ?_; refine kbe 1 #[.bool false, .slice A0_1 l0_1.length c0_1] 25 ?_; intro gb112 hg w13 hbox hb; replace HO0_1 := Aside0.mk (Kd.V_below (Kd.V_elderB (kvu HO0_1.out) gb112 (Nat.le_of_eq hg.symm)) hb); have BK112 := Aside0.mk (hbox); have GW112 := kbz hg HB; have GE112 := kbz hg HB; replace HB := kbs HB hb; clear hb hbox hg) | (refine gd 2 rfl ?_; refine kbe 2 #[.slice none 0 0, .bool false] 62 ?_; intro gb113 hg w14 hbox hb; replace HO0_1 := Aside0.mk (Kd.V_below (Kd.V_elderB (kvu HO0_1.out) gb113 (Nat.le_of_eq hg.symm)) hb); have BK113 := Aside0.mk (hbox); have GW113 := kbz hg HB; have GE113 := kbz hg HB; replace HB := kbs HB hb; have NB112_113 := knl hg BK112; have NB113_112 := kng hg BK112; replace BK112 := kbb BK112 hb; clear hb hbox hg; have hnb15 := NB112_113.out; have hnc15 := NB113_112.out; have hcz16_0 : w14.cell? ⟨gb112, 0, none⟩ = some (.bool false) := (blk_cell BK112.out 0).trans rfl; have hcz16_1 : w14.cell? ⟨gb112, 1, none⟩ = some (.slice A0_1 l0_1.length c0_1) := (blk_cell BK112.out 1).trans rfl; have hfz16_0 := blk_frozen BK112.out 0; have hfz16_1 := blk_frozen BK112.out 1) | ((with_reducible refine gate_callee (f := 83) rfl ?_); refine kgl (some 6) rfl rfl Tryd.func83 #[.slice A0_1 l0_1.length c0_1] rfl ?_; (with_reducible refine (whole_trimmed.calls k (fun k_ => (((P0_1_ k_ ∨ w.heap.size ≤ k_) ∧ k_ ≠ gb112) ∧ k_ ≠ gb113)) _ _ l0_1 t114 _ ?side1 A2.out).mono ?_); (case side1 => exact HO0_1.out); rintro e w17 ⟨v115, rfl, ho0, hb⟩; refine ⟨_, rfl, ?_⟩; replace HO0_1 := kvb HO0_1 hb; have HO116 := Aside0.mk (Kd.V_lower (Kd.V_mono (ok' := fun k_ => (P0_1_ k_ ∨ w.heap.size ≤ k_) ∧ k_ ≠ gb112 ∧ k_ ≠ gb113) ho0 (fun k_ hk_ => ⟨Or.elim hk_ (fun hs_ => hs_.1.1) (fun hn_ => (.inr (Nat.le_trans (below_size (khu HB.out)) hn_))), Or.elim hk_ (fun hs_ => hs_.1.2) (kfb BK112), Or.elim hk_ (fun hs_ => hs_.2) (kfb BK113)⟩)) (below_size (khu HB.out))); replace BK112 := kbb BK112 hb; replace BK113 := kbb BK113 hb; replace HB := kbs HB hb; (try clear hb); (try clear hb2); (try clear hk); (try clear hi); (try clear ho0); have hcz18_0 : w17.cell? ⟨gb112, 0, none⟩ = some (.bool false) := (blk_cell BK112.out 0).trans rfl; have hcz18_1 : w17.cell? ⟨gb112, 1, none⟩ = some (.slice A0_1 l0_1.length c0_1) := (blk_cell BK112.out 1).trans rfl; have hfz18_0 := blk_frozen BK112.out 0; have hfz18_1 := blk_frozen BK112.out 1; obtain ⟨Ao19, co19, eo19⟩ := Kd.V_slice HO116.out; subst eo19; have hcz20_0 : w17.cell? ⟨gb113, 0, none⟩ = some (.slice none 0 0) := (blk_cell BK113.out 0).trans rfl; have hcz20_1 : w17.cell? ⟨gb113, 1, none⟩ = some (.bool false) := (blk_cell BK113.out 1).trans rfl; have hfz20_0 := blk_frozen BK113.out 0; have hfz20_1 := blk_frozen BK113.out 1))
 refine bodyPost_ret (results_cell_row rfl _ _ gb113 62 #[.slice Ao19 t114.length co19, .bool false] (0, 0) _ rfl (kpu #[.slice Ao19 t114.length co19, .bool false] 1 (kpu #[.slice none 0 0, .bool false] 0 (kbu BK113.out))) Tryd.underlying62 rfl (by kernel_rfl)) rfl ?_
 exact ⟨_, by first | rfl | (simp [*, errW_none, errW_some] <;> rfl), by (with_reducible repeat (first | apply Kd.V_alloc | apply Kd.V_drewN | apply Kd.V_drew)); exact Kd.V_mono (Kd.V_far (p := ⟨gb113, 1, none⟩) (Kd.V_far (p := ⟨gb113, 0, none⟩) (Kd.V_mono HO116.out (fun k_ hk => (⟨hk, hk.2.2⟩ : _ ∧ k_ ≠ gb113))) (fun _ hk => hk.2) (.slice Ao19 t114.length co19)) (fun _ hk => hk.2) (.bool false)) (fun _ hk => hk.1.1), by repeat (first | (with_reducible first | exact HB.out | apply below_alloc | apply pw_below_drewN | apply below_drew1 | refine below_set ?_ GE112.out | refine below_set ?_ GE113.out) | exact HB.out)⟩
def whole_signed.f (l0 : List Int) (a1 : Bool) : Option (List Int × Bool) := if a1 = true then ((whole_amount_null.f l0).bind fun t119 => (some (l0, !t119))) else (some (l0, false))
theorem whole_signed.calls (P0_ : Nat → Prop) (A0 : Option Addr) (c0 : Nat) (l0 : List Int) (a1 : Bool) (r1 : List Int) (r2 : Bool) (w : World) (hs0 : Kd.V (Kd.int .u64) 59 w w.heap.size (fun k_ => P0_ k_) (.slice A0 l0.length c0) l0) (h : whole_signed.f l0 a1 = some (r1, r2)) :
  Calls Tryd.prog 60 #[.slice A0 l0.length c0, .bool a1] w fun e w' => ∃ v0_ : Value, e = .returned (.agg #[v0_, .bool r2]) ∧ Kd.V (Kd.int .u64) 59 w' w.heap.size (fun k_ => (P0_ k_ ∨ w.heap.size ≤ k_)) v0_ r1 ∧ Below w.heap.size w w' := by
 have hu62 := Tryd.underlying62
 have HO0 := Aside0.mk (show Kd.V (Kd.int .u64) 59 w w.heap.size (fun k_ => (P0_ k_ ∨ w.heap.size ≤ k_)) (.slice A0 l0.length c0) l0 from Kd.V_mono hs0 (fun k_ hk => .inl hk))
 have HB := Aside0.mk (Below.refl w.heap.size w)
 have H : (if a1 = true then ((whole_amount_null.f l0).bind fun t119 => (some (l0, !t119))) else (some (l0, false))) = some (r1, r2) := h
 clear h
 by_cases c3 : a1 = true
 ·subst c3
  have H1 : ((whole_amount_null.f l0).bind fun t119 => (some (l0, !t119))) = some (r1, r2) := by rw [if_pos rfl] at H; exact H
  clear H
  have H := H1
  clear H1
  replace H := Option.bind_eq_some_iff.mp H
  obtain ⟨t119, A40, H⟩ := H
  replace H : (some (l0, !t119)) = some (r1, r2) := H
  have A4 := Aside0.mk A40
  clear A40
  simp only [Option.some.injEq, Prod.mk.injEq] at H
  obtain ⟨rfl, rfl⟩ := H
  go_enter Tryd.func60, Tryd.ntmps60
  go_wp2_with (first | (refine gd 4 rfl ?_; refine kbe 4 #[.slice none 0 0, .bool false] 62 ?_; intro gb118 hg w5 hbox hb; replace HO0 := Aside0.mk (Kd.V_below (Kd.V_elderB (kvu HO0.out) gb118 (Nat.le_of_eq hg.symm)) hb); have BK118 := Aside0.mk (hbox); have GW118 := kbz hg HB; have GE118 := kbz hg HB; replace HB := kbs HB hb; clear hb hbox hg) | (go_at_call 57; (with_reducible refine (whole_amount_null.calls _ _ l0 t119 _ ?side1 ?side2 A4.out).mono ?_); (case side1 => repeat (first | exact (Kd.V_reads' HO0.out).2.2 | (with_reducible refine Kd.C_alloc ?_ _) | (with_reducible refine Kd.C_drewN ?_ _) | (with_reducible refine Kd.C_drew ?_))); (case side2 => exact (Kd.V_reads' HO0.out).2.1); rintro e w' ⟨rfl, ⟨nd, rfl⟩⟩; (try (rw [drewN_self w5]; generalize hq_ : World.drewN w5 _ = w5; have n0_ : Aside0 (Kd.V (Kd.int .u64) 59 w5 w.heap.size (fun k_ => (P0_ k_ ∨ w.heap.size ≤ k_) ∧ k_ ≠ gb118) (.slice A0 l0.length c0) l0) := ⟨by rw [← hq_]; exact (kvu HO0.out)⟩; have n1_ : Aside0 (w5.heap[gb118]? = some (.cells #[.slice none 0 0, .bool false] 62 (0, 0))) := ⟨by rw [← hq_]; exact (kbu BK118.out)⟩; have n2_ : Aside0 (Below w.heap.size w w5) := ⟨by rw [← hq_]; exact (khu HB.out)⟩; clear HO0 BK118 HB hq_; have HO0 := n0_; have BK118 := n1_; have HB := n2_; clear n0_ n1_ n2_)); have hcz6_0 : w5.cell? ⟨gb118, 0, none⟩ = some (.slice none 0 0) := (blk_cell BK118.out 0).trans rfl; have hcz6_1 : w5.cell? ⟨gb118, 1, none⟩ = some (.bool false) := (blk_cell BK118.out 1).trans rfl; have hfz6_0 := blk_frozen BK118.out 0; have hfz6_1 := blk_frozen BK118.out 1))
  refine bodyPost_ret (results_cell_row rfl _ _ gb118 62 #[.slice A0 l0.length c0, .bool (!t119)] (0, 0) _ rfl (kpu #[.slice A0 l0.length c0, .bool false] 1 (kpu #[.slice none 0 0, .bool false] 0 (kbu BK118.out))) Tryd.underlying62 rfl (by kernel_rfl)) rfl ?_
  exact ⟨_, by first | rfl | (simp [*, errW_none, errW_some] <;> rfl), by (with_reducible repeat (first | apply Kd.V_alloc | apply Kd.V_drewN | apply Kd.V_drew)); exact Kd.V_mono (Kd.V_far (p := ⟨gb118, 1, none⟩) (Kd.V_far (p := ⟨gb118, 0, none⟩) (Kd.V_mono HO0.out (fun k_ hk => (⟨hk, hk.2⟩ : _ ∧ k_ ≠ gb118))) (fun _ hk => hk.2) (.slice A0 l0.length c0)) (fun _ hk => hk.2) (.bool (!t119))) (fun _ hk => hk.1.1), by repeat (first | (with_reducible first | exact HB.out | apply below_alloc | apply pw_below_drewN | apply below_drew1 | refine below_set ?_ GE118.out) | exact HB.out)⟩
 replace c3 := Bool.eq_false_iff.mpr c3
 subst c3
 have H1 : (some (l0, false)) = some (r1, r2) := by rw [if_neg (show ¬ (false = true) by decide)] at H; exact H
 clear H
 have H := H1
 clear H1
 simp only [Option.some.injEq, Prod.mk.injEq] at H
 obtain ⟨rfl, rfl⟩ := H
 go_enter Tryd.func60, Tryd.ntmps60
 go_wp2_with (first | (refine gd 4 rfl ?_; refine kbe 4 #[.slice none 0 0, .bool false] 62 ?_; intro gb118 hg w7 hbox hb; replace HO0 := Aside0.mk (Kd.V_below (Kd.V_elderB (kvu HO0.out) gb118 (Nat.le_of_eq hg.symm)) hb); have BK118 := Aside0.mk (hbox); have GW118 := kbz hg HB; have GE118 := kbz hg HB; replace HB := kbs HB hb; clear hb hbox hg; have hcz8_0 : w7.cell? ⟨gb118, 0, none⟩ = some (.slice none 0 0) := (blk_cell BK118.out 0).trans rfl; have hcz8_1 : w7.cell? ⟨gb118, 1, none⟩ = some (.bool false) := (blk_cell BK118.out 1).trans rfl; have hfz8_0 := blk_frozen BK118.out 0; have hfz8_1 := blk_frozen BK118.out 1))
 refine bodyPost_ret (results_cell_row rfl _ _ gb118 62 #[.slice A0 l0.length c0, .bool false] (0, 0) _ rfl (kpu #[.slice A0 l0.length c0, .bool false] 1 (kpu #[.slice none 0 0, .bool false] 0 (kbu BK118.out))) Tryd.underlying62 rfl (by kernel_rfl)) rfl ?_
 exact ⟨_, by first | rfl | (simp [*, errW_none, errW_some] <;> rfl), by (with_reducible repeat (first | apply Kd.V_alloc | apply Kd.V_drewN | apply Kd.V_drew)); exact Kd.V_mono (Kd.V_far (p := ⟨gb118, 1, none⟩) (Kd.V_far (p := ⟨gb118, 0, none⟩) (Kd.V_mono HO0.out (fun k_ hk => (⟨hk, hk.2⟩ : _ ∧ k_ ≠ gb118))) (fun _ hk => hk.2) (.slice A0 l0.length c0)) (fun _ hk => hk.2) (.bool false)) (fun _ hk => hk.1.1), by repeat (first | (with_reducible first | exact HB.out | apply below_alloc | apply pw_below_drewN | apply below_drew1 | refine below_set ?_ GE118.out) | exact HB.out)⟩
def bits_Mul64.f (a0 : Int) (a1 : Int) : Option (Int × Int) := some (IntKind.u64.wrap ((IntKind.u64.wrap ((IntKind.u64.wrap ((a0 / 4294967296) * (a1 / 4294967296))) + ((IntKind.u64.wrap ((IntKind.u64.wrap ((a0 / 4294967296) * (Go.bits .and .u64 a1 4294967295))) + ((IntKind.u64.wrap ((Go.bits .and .u64 a0 4294967295) * (Go.bits .and .u64 a1 4294967295))) / 4294967296))) / 4294967296))) + ((IntKind.u64.wrap ((Go.bits .and .u64 (IntKind.u64.wrap ((IntKind.u64.wrap ((a0 / 4294967296) * (Go.bits .and .u64 a1 4294967295))) + ((IntKind.u64.wrap ((Go.bits .and .u64 a0 4294967295) * (Go.bits .and .u64 a1 4294967295))) / 4294967296))) 4294967295) + (IntKind.u64.wrap ((Go.bits .and .u64 a0 4294967295) * (a1 / 4294967296))))) / 4294967296)), IntKind.u64.wrap (a0 * a1))
theorem bits_Mul64.calls (a0 : Int) (a1 : Int) (r1 : Int) (r2 : Int) (w : World) (h : bits_Mul64.f a0 a1 = some (r1, r2)) :
  Calls Tryd.prog 114 #[.int .u64 a0, .int .u64 a1] w fun e w' => e = .returned (.tuple #[.int .u64 r1, .int .u64 r2]) ∧ Drawn0 w w' := by
 have H : (some (IntKind.u64.wrap ((IntKind.u64.wrap ((IntKind.u64.wrap ((a0 / 4294967296) * (a1 / 4294967296))) + ((IntKind.u64.wrap ((IntKind.u64.wrap ((a0 / 4294967296) * (Go.bits .and .u64 a1 4294967295))) + ((IntKind.u64.wrap ((Go.bits .and .u64 a0 4294967295) * (Go.bits .and .u64 a1 4294967295))) / 4294967296))) / 4294967296))) + ((IntKind.u64.wrap ((Go.bits .and .u64 (IntKind.u64.wrap ((IntKind.u64.wrap ((a0 / 4294967296) * (Go.bits .and .u64 a1 4294967295))) + ((IntKind.u64.wrap ((Go.bits .and .u64 a0 4294967295) * (Go.bits .and .u64 a1 4294967295))) / 4294967296))) 4294967295) + (IntKind.u64.wrap ((Go.bits .and .u64 a0 4294967295) * (a1 / 4294967296))))) / 4294967296)), IntKind.u64.wrap (a0 * a1))) = some (r1, r2) := h
 clear h
 simp only [Option.some.injEq, Prod.mk.injEq] at H
 obtain ⟨rfl, rfl⟩ := H
 go_enter Tryd.func114, Tryd.ntmps114
 go_wp2
 go_ret2
 exact ⟨by first | rfl | (simp; done) | (simp [*]; done), by repeat (first | exact Drawn0.refl _ | apply Drawn0.step)⟩
def whole_subtract.l0 : Nat → List Int → List Int → Int → Int → Int → List Int → Int → Int → Option (Bool × List Int)
 | 0, _, _, _, _, _, _, _, _ => none
 | k + 1, x0, x1, x2, x7, x8, x14, x15, x16 => if x16 < x15 then (if 0 ≤ x16 then (if x16 < (x14.length : Int) then ((bits_Mul64.f x2 (rd x14 x16)).bind fun bt143 => ((bits_Add64.f bt143.2 x7 0).bind fun bt145 => (if x16 < (x0.length : Int) then ((bits_Sub64.f (rd x0 x16) bt145.1 x8).bind fun bt148 => (whole_subtract.l0 k (x0.set (x16 : Int).toNat bt148.1) x1 x2 (IntKind.u64.wrap (bt143.1 + bt145.2)) bt148.2 x14 x15 (wrap64 (x16 + 1)))) else (none)))) else (none)) else (none)) else (if 0 ≤ (x1.length : Int) then (if (x1.length : Int) < (x0.length : Int) then ((bits_Sub64.f (rd x0 (x1.length : Int)) x7 x8).bind fun bt152 => (some ((bt152.2 == 1), (x0.set ((x1.length : Int) : Int).toNat bt152.1)))) else (none)) else (none))
def whole_subtract.f (k : Nat) (l0 : List Int) (l1 : List Int) (a2 : Int) : Option (Bool × List Int) := whole_subtract.l0 k l0 l1 a2 0 0 l1 (l1.length : Int) 0
theorem whole_subtract.mono_l : ∀ k, (∀ y0 y1 y2 y3 y4 y5 y6 y7, LeO (whole_subtract.l0 k y0 y1 y2 y3 y4 y5 y6 y7) (whole_subtract.l0 (k + 1) y0 y1 y2 y3 y4 y5 y6 y7))
 | 0 => fun _ _ _ _ _ _ _ _ r h => by simp [whole_subtract.l0] at h
 | k + 1 => by
  have ih0 := whole_subtract.mono_l k
  intro y0 y1 y2 y3 y4 y5 y6 y7
  unfold whole_subtract.l0
  repeat' first
  | (with_reducible exact ih0 _ _ _ _ _ _ _ _)
  | (with_reducible exact LeO.refl _)
  | (with_reducible exact LeO.none _)
  | (with_reducible refine LeO.ite ?_ ?_)
  | (with_reducible refine LeO.bind ?_ (fun _ => ?_))
  | exact ih0 _ _ _ _ _ _ _ _
  | exact LeO.none _
  | refine LeO.ite ?_ ?_
  | refine LeO.bind ?_ (fun _ => ?_)
theorem whole_subtract.mono : ∀ a0 a1 a2 k, LeO (whole_subtract.f k a0 a1 a2) (whole_subtract.f (k + 1) a0 a1 a2) := by
 intro a0 a1 a2 k
 have ih0 := whole_subtract.mono_l k
 unfold whole_subtract.f
 repeat' first
   | (with_reducible exact ih0 _ _ _ _ _ _ _ _)
   | (with_reducible exact LeO.refl _)
   | (with_reducible exact LeO.none _)
   | (with_reducible refine LeO.ite ?_ ?_)
   | (with_reducible refine LeO.bind ?_ (fun _ => ?_))
   | exact ih0 _ _ _ _ _ _ _ _
   | exact LeO.none _
   | refine LeO.ite ?_ ?_
   | refine LeO.bind ?_ (fun _ => ?_)
def whole_add.l0 : Nat → List Int → List Int → Int → List Int → Int → Int → Option (List Int)
 | 0, _, _, _, _, _, _ => none
 | k + 1, x0, x1, x4, x7, x8, x9 => if x9 < x8 then (if 0 ≤ x9 then (if x9 < (x7.length : Int) then (if x9 < (x0.length : Int) then ((bits_Add64.f (rd x0 x9) (rd x7 x9) x4).bind fun bt157 => (whole_add.l0 k (x0.set (x9 : Int).toNat bt157.1) x1 bt157.2 x7 x8 (wrap64 (x9 + 1)))) else (none)) else (none)) else (none)) else (if 0 ≤ (x1.length : Int) then (if (x1.length : Int) < (x0.length : Int) then (some (x0.set ((x1.length : Int) : Int).toNat (IntKind.u64.wrap ((rd x0 (x1.length : Int)) + x4)))) else (none)) else (none))
def whole_add.f (k : Nat) (l0 : List Int) (l1 : List Int) : Option (List Int) := whole_add.l0 k l0 l1 0 l1 (l1.length : Int) 0
theorem whole_add.mono_l : ∀ k, (∀ y0 y1 y2 y3 y4 y5, LeO (whole_add.l0 k y0 y1 y2 y3 y4 y5) (whole_add.l0 (k + 1) y0 y1 y2 y3 y4 y5))
 | 0 => fun _ _ _ _ _ _ r h => by simp [whole_add.l0] at h
 | k + 1 => by
  have ih0 := whole_add.mono_l k
  intro y0 y1 y2 y3 y4 y5
  unfold whole_add.l0
  repeat' first
  | (with_reducible exact ih0 _ _ _ _ _ _)
  | (with_reducible exact LeO.refl _)
  | (with_reducible exact LeO.none _)
  | (with_reducible refine LeO.ite ?_ ?_)
  | (with_reducible refine LeO.bind ?_ (fun _ => ?_))
  | exact ih0 _ _ _ _ _ _
  | exact LeO.none _
  | refine LeO.ite ?_ ?_
  | refine LeO.bind ?_ (fun _ => ?_)
theorem whole_add.mono : ∀ a0 a1 k, LeO (whole_add.f k a0 a1) (whole_add.f (k + 1) a0 a1) := by
 intro a0 a1 k
 have ih0 := whole_add.mono_l k
 unfold whole_add.f
 repeat' first
   | (with_reducible exact ih0 _ _ _ _ _ _)
   | (with_reducible exact LeO.refl _)
   | (with_reducible exact LeO.none _)
   | (with_reducible refine LeO.ite ?_ ?_)
   | (with_reducible refine LeO.bind ?_ (fun _ => ?_))
   | exact ih0 _ _ _ _ _ _
   | exact LeO.none _
   | refine LeO.ite ?_ ?_
   | refine LeO.bind ?_ (fun _ => ?_)
def whole_amount_down.l0 : Nat → Int → List Int → List Int → Int → Int → Option (List Int)
 | 0, _, _, _, _, _ => none
 | k + 1, x1, x5, x11, x12, x13 => if x13 < x12 then (if 0 ≤ x13 then (if x13 < (x11.length : Int) then (if x13 < (x5.length : Int) then (if 0 ≤ x1 then ((some (x5.set (x13 : Int).toNat (Go.bits .or .u64 (rd x5 x13) (shr .u64 (rd x11 x13) x1)) : List Int)).bind fun y167 => (if x1 > 0 then (if x13 > 0 then (if 0 ≤ (wrap64 (x13 - 1)) then (if (wrap64 (x13 - 1)) < (x5.length : Int) then (if 0 ≤ (IntKind.u64.wrap (64 - x1)) then (whole_amount_down.l0 k x1 (y167.set ((wrap64 (x13 - 1)) : Int).toNat (Go.bits .or .u64 (rd y167 (wrap64 (x13 - 1))) (shl .u64 (rd x11 x13) (IntKind.u64.wrap (64 - x1))))) x11 x12 (wrap64 (x13 + 1))) else (none)) else (none)) else (none)) else (whole_amount_down.l0 k x1 y167 x11 x12 (wrap64 (x13 + 1)))) else (whole_amount_down.l0 k x1 y167 x11 x12 (wrap64 (x13 + 1))))) else (none)) else (none)) else (none)) else (none)) else ((whole_trimmed.f k x5).bind fun t170 => (some t170))
def whole_amount_down.f (k : Nat) (l0 : List Int) (a1 : Int) : Option (List Int) := if 0 ≤ (l0.length : Int) then (if ((l0.length : Int) : Int).toNat ≤ 35184372088832 then (whole_amount_down.l0 k a1 (List.replicate ((l0.length : Int) : Int).toNat 0) l0 (l0.length : Int) 0) else (none)) else (none)
theorem whole_amount_down.mono_l : ∀ k, (∀ y0 y1 y2 y3 y4, LeO (whole_amount_down.l0 k y0 y1 y2 y3 y4) (whole_amount_down.l0 (k + 1) y0 y1 y2 y3 y4))
 | 0 => fun _ _ _ _ _ r h => by simp [whole_amount_down.l0] at h
 | k + 1 => by
  have ih0 := whole_amount_down.mono_l k
  intro y0 y1 y2 y3 y4
  unfold whole_amount_down.l0
  repeat' first
  | (with_reducible exact ih0 _ _ _ _ _)
  | (with_reducible exact whole_trimmed.mono _ _)
  | (with_reducible exact LeO.refl _)
  | (with_reducible exact LeO.none _)
  | (with_reducible refine LeO.ite ?_ ?_)
  | (with_reducible refine LeO.bind ?_ (fun _ => ?_))
  | exact ih0 _ _ _ _ _
  | exact whole_trimmed.mono _ _
  | exact LeO.none _
  | refine LeO.ite ?_ ?_
  | refine LeO.bind ?_ (fun _ => ?_)
theorem whole_amount_down.mono : ∀ a0 a1 k, LeO (whole_amount_down.f k a0 a1) (whole_amount_down.f (k + 1) a0 a1) := by
 intro a0 a1 k
 have ih0 := whole_amount_down.mono_l k
 unfold whole_amount_down.f
 repeat' first
   | (with_reducible exact ih0 _ _ _ _ _)
   | (with_reducible exact whole_trimmed.mono _ _)
   | (with_reducible exact LeO.refl _)
   | (with_reducible exact LeO.none _)
   | (with_reducible refine LeO.ite ?_ ?_)
   | (with_reducible refine LeO.bind ?_ (fun _ => ?_))
   | exact ih0 _ _ _ _ _
   | exact whole_trimmed.mono _ _
   | exact LeO.none _
   | refine LeO.ite ?_ ?_
   | refine LeO.bind ?_ (fun _ => ?_)
theorem whole_amount_down.calls (k : Nat) (A0 : Option Addr) (c0 : Nat) (l0 : List Int) (a1 : Int) (r : List Int) (w : World) (hr0 : Kd.C (Kd.int .u64) w A0 l0.length l0) (hc0 : l0.length ≤ c0) (h : whole_amount_down.f k l0 a1 = some r) :
  Calls Tryd.prog 117 #[.slice A0 l0.length c0, .int .u64 a1] w fun e w' => ∃ v0_ : Value, e = .returned (v0_) ∧ Kd.V (Kd.int .u64) 59 w' w.heap.size (fun k_ => (w.heap.size ≤ k_)) v0_ r ∧ Below w.heap.size w w' := by
 have HR0 := Aside0.mk hr0
 have HC0 := Aside0.mk hc0
 clear hr0 hc0
 have HB := Aside0.mk (Below.refl w.heap.size w)
 have H : (if 0 ≤ (l0.length : Int) then (if ((l0.length : Int) : Int).toNat ≤ 35184372088832 then (whole_amount_down.l0 k a1 (List.replicate ((l0.length : Int) : Int).toNat 0) l0 (l0.length : Int) 0) else (none)) else (none)) = some r := h
 clear h
 by_cases c3 : 0 ≤ (l0.length : Int)
 ·rw [if_pos c3] at H
  have c3b0 := eq_true c3
  have c3b1 : decide (0 ≤ (l0.length : Int)) = true := decide_eq_true c3
  clear c3
  by_cases c4 : ((l0.length : Int) : Int).toNat ≤ 35184372088832
  ·rw [if_pos c4] at H
   have c4b0 := eq_true c4
   have c4b1 : decide (((l0.length : Int) : Int).toNat ≤ 35184372088832) = true := decide_eq_true c4
   clear c4
   obtain ⟨y162, hy162⟩ : ∃ y_ : List Int, y_ = (List.replicate ((l0.length : Int) : Int).toNat 0) := ⟨_, rfl⟩
   replace H : (whole_amount_down.l0 k a1 y162 l0 (l0.length : Int) 0) = some r := by first | (rw [hy162]; with_reducible exact H) | (have H2_ := (Option.bind_some _ _).symm.trans H; rw [hy162]; with_reducible exact H2_) | (have H2_ := (Option.bind_some _ _).symm.trans H; with_reducible exact H2_) | with_reducible exact H | (rw [hy162]; exact H) | exact H
   have Ny162 := Aside0.mk hy162
   clear hy162
   have H' := Aside0.mk H
   clear H
   go_enter Tryd.func117, Tryd.ntmps117
   go_wp2_with (first | (refine gd 10 rfl ?_; refine Kd.R_make (Kd.int .u64) _ 59 rfl (N := 10) rfl 22 _ _ rfl (l0.length : Int) rfl rfl Tryd.underlying22 (.int .u64 0) 8 info59 rfl (by decide) (by omega) 0 (ok := fun _ => True) (okp := fun _ => True) rfl (fun _ hk => hk) trivial (of_decide_eq_true ‹_›) (Nat.le_trans (Nat.mul_le_mul_right _ (of_decide_eq_true ‹_› : (l0.length : Int).toNat ≤ 35184372088832)) (by omega)) (Below.refl _ _) (Nat.le_refl _) ?_; intro v163 w5 ho6 hb hg_ hnew_; clear hg_ hnew_; (first | rw [← Ny162.out] at ho6 | (simp only [Int.reduceToNat] at ho6; rw [← Ny162.out] at ho6)); have HO164 := Aside0.mk (Kd.R_lower (Kd.R_newM (M := fun k_ => (w.heap.size ≤ k_)) ho6 (below_size (khu HB.out)) (fun k_ h_ => h_)) (below_size (khu HB.out))); replace HB := kbs HB hb; clear hb ho6))
   go_loopg [13] k (fun kq v13 w' => ∃ (x5_1 : List Int) (x13_1 : Int), v13 = .int .i64 x13_1 ∧ Aside0 (whole_amount_down.l0 kq a1 x5_1 l0 (l0.length : Int) x13_1 = some r) ∧ Aside0 (kq ≤ k) ∧ Aside0 (Kd.R (Kd.int .u64) 59 w' w.heap.size (fun k_ => (w.heap.size ≤ k_)) v163 x5_1) ∧ Aside0 (Below w.heap.size w w'))
   case atStart => exact ⟨(y162), (0), (by first | rfl | (simp; done) | (simp [*]; done)), H', ⟨Nat.le_refl _⟩, ⟨by (with_reducible repeat (first | apply Kd.R_alloc | apply Kd.R_drewN | apply Kd.R_drew)); exact Kd.R_mono HO164.out (fun _ hk => hk.1)⟩, ⟨khu HB.out⟩⟩
   case round =>
    clear H'
    try clear c1
    try clear p2
    try clear c3
    try clear c3b0
    try clear c3b1
    try clear c4
    try clear c4b0
    try clear c4b1
    obtain ⟨x5_1, x13_1, rfl, HA, HK1, HO_5, HB⟩ := hrel
    cases gk with
    | zero => exact absurd HA.out (by simp [whole_amount_down.l0])
    | succ k1 =>
     have H := HA.out
     clear HA
     simp only [whole_amount_down.l0] at H
     by_cases c7 : x13_1 < (l0.length : Int)
     ·rw [if_pos c7] at H
      have c7b0 : decide (x13_1 < (l0.length : Int)) = true := decide_eq_true c7
      clear c7
      by_cases c8 : 0 ≤ x13_1
      ·rw [if_pos c8] at H
       have c8b0 : decide (0 ≤ x13_1) = true := decide_eq_true c8
       clear c8
       by_cases c9 : x13_1 < (l0.length : Int)
       ·rw [if_pos c9] at H
        have c9b0 : decide (x13_1 < (l0.length : Int)) = true := decide_eq_true c9
        clear c9
        by_cases c10 : x13_1 < (x5_1.length : Int)
        ·rw [if_pos c10] at H
         have c10b0 : decide (x13_1 < (x5_1.length : Int)) = true := decide_eq_true c10
         clear c10
         by_cases c11 : 0 ≤ a1
         ·rw [if_pos c11] at H
          have c11b0 := eq_true c11
          have c11b1 : decide (0 ≤ a1) = true := decide_eq_true c11
          clear c11
          obtain ⟨ji12, hji12⟩ : ∃ j_ : Int, (shr .u64 (rd l0 x13_1) a1) = j_ := ⟨_, rfl⟩
          replace H : ((some (x5_1.set (x13_1 : Int).toNat (Go.bits .or .u64 (rd x5_1 x13_1) (ji12)) : List Int)).bind fun y167 => (if a1 > 0 then (if x13_1 > 0 then (if 0 ≤ (wrap64 (x13_1 - 1)) then (if (wrap64 (x13_1 - 1)) < (x5_1.length : Int) then (if 0 ≤ (IntKind.u64.wrap (64 - a1)) then (whole_amount_down.l0 k1 a1 (y167.set ((wrap64 (x13_1 - 1)) : Int).toNat (Go.bits .or .u64 (rd y167 (wrap64 (x13_1 - 1))) (shl .u64 (rd l0 x13_1) (IntKind.u64.wrap (64 - a1))))) l0 (l0.length : Int) (wrap64 (x13_1 + 1))) else (none)) else (none)) else (none)) else (whole_amount_down.l0 k1 a1 y167 l0 (l0.length : Int) (wrap64 (x13_1 + 1)))) else (whole_amount_down.l0 k1 a1 y167 l0 (l0.length : Int) (wrap64 (x13_1 + 1))))) = some r := by first | (rw [hji12] at H; exact H) | (simp only [hji12] at H ⊢; exact H)
          have hji12_ : ((rd l0 x13_1) / 2 ^ min a1.toNat 64) = ji12 := hji12
          have hji12z : a1 ≤ 64 → ((rd l0 x13_1) / 2 ^ a1.toNat) = ji12 := shr_small hji12
          obtain ⟨y167, hy167⟩ : ∃ y_ : List Int, y_ = (x5_1.set (x13_1 : Int).toNat (Go.bits .or .u64 (rd x5_1 x13_1) (ji12))) := ⟨_, rfl⟩
          replace H : (if a1 > 0 then (if x13_1 > 0 then (if 0 ≤ (wrap64 (x13_1 - 1)) then (if (wrap64 (x13_1 - 1)) < (x5_1.length : Int) then (if 0 ≤ (IntKind.u64.wrap (64 - a1)) then (whole_amount_down.l0 k1 a1 (y167.set ((wrap64 (x13_1 - 1)) : Int).toNat (Go.bits .or .u64 (rd y167 (wrap64 (x13_1 - 1))) (shl .u64 (rd l0 x13_1) (IntKind.u64.wrap (64 - a1))))) l0 (l0.length : Int) (wrap64 (x13_1 + 1))) else (none)) else (none)) else (none)) else (whole_amount_down.l0 k1 a1 y167 l0 (l0.length : Int) (wrap64 (x13_1 + 1)))) else (whole_amount_down.l0 k1 a1 y167 l0 (l0.length : Int) (wrap64 (x13_1 + 1)))) = some r := by first | (rw [hy167]; with_reducible exact H) | (have H2_ := (Option.bind_some _ _).symm.trans H; rw [hy167]; with_reducible exact H2_) | (have H2_ := (Option.bind_some _ _).symm.trans H; with_reducible exact H2_) | with_reducible exact H | (rw [hy167]; exact H) | exact H
          have Ny167 := Aside0.mk hy167
          clear hy167
          by_cases c14 : a1 > 0
          ·rw [if_pos c14] at H
           have c14b0 : decide (0 < a1) = true := decide_eq_true c14
           clear c14
           by_cases c15 : x13_1 > 0
           ·rw [if_pos c15] at H
            have c15b0 : decide (0 < x13_1) = true := decide_eq_true c15
            clear c15
            obtain ⟨ji16, hji16⟩ : ∃ j_ : Int, (wrap64 (x13_1 - 1)) = j_ := ⟨_, rfl⟩
            replace H : (if 0 ≤ (ji16) then (if (ji16) < (x5_1.length : Int) then (if 0 ≤ (IntKind.u64.wrap (64 - a1)) then (whole_amount_down.l0 k1 a1 (y167.set ((ji16) : Int).toNat (Go.bits .or .u64 (rd y167 (ji16)) (shl .u64 (rd l0 x13_1) (IntKind.u64.wrap (64 - a1))))) l0 (l0.length : Int) (wrap64 (x13_1 + 1))) else (none)) else (none)) else (none)) = some r := by first | (rw [hji16] at H; exact H) | (simp only [hji16] at H ⊢; exact H)
            have hji16w : (IntKind.i64.wrap (x13_1 - 1)) = ji16 := (i64_w _).trans hji16
            by_cases c17 : 0 ≤ (ji16)
            ·rw [if_pos c17] at H
             have c17b0 : decide (0 ≤ (ji16)) = true := decide_eq_true c17
             clear c17
             by_cases c18 : (ji16) < (x5_1.length : Int)
             ·rw [if_pos c18] at H
              have c18b0 : decide ((ji16) < (x5_1.length : Int)) = true := decide_eq_true c18
              clear c18
              obtain ⟨ji19, hji19⟩ : ∃ j_ : Int, (IntKind.u64.wrap (64 - a1)) = j_ := ⟨_, rfl⟩
              replace H : (if 0 ≤ (ji19) then (whole_amount_down.l0 k1 a1 (y167.set ((ji16) : Int).toNat (Go.bits .or .u64 (rd y167 (ji16)) (shl .u64 (rd l0 x13_1) (ji19)))) l0 (l0.length : Int) (wrap64 (x13_1 + 1))) else (none)) = some r := by first | (rw [hji19] at H; exact H) | (simp only [hji19] at H ⊢; exact H)
              by_cases c20 : 0 ≤ (ji19)
              ·rw [if_pos c20] at H
               have c20b0 := eq_true c20
               have c20b1 : decide (0 ≤ (ji19)) = true := decide_eq_true c20
               clear c20
               obtain ⟨ji21, hji21⟩ : ∃ j_ : Int, (shl .u64 (rd l0 x13_1) (ji19)) = j_ := ⟨_, rfl⟩
               replace H : (whole_amount_down.l0 k1 a1 (y167.set ((ji16) : Int).toNat (Go.bits .or .u64 (rd y167 (ji16)) (ji21))) l0 (l0.length : Int) (wrap64 (x13_1 + 1))) = some r := by first | (rw [hji21] at H; exact H) | (simp only [hji21] at H ⊢; exact H)
               have hji21_ : (IntKind.u64.wrap ((rd l0 x13_1) * 2 ^ min (ji19).toNat 64)) = ji21 := hji21
               have hji21z : (ji19) ≤ 64 → (IntKind.u64.wrap ((rd l0 x13_1) * 2 ^ (ji19).toNat)) = ji21 := shl_small hji21
               obtain ⟨y169, hy169⟩ : ∃ y_ : List Int, y_ = (y167.set ((ji16) : Int).toNat (Go.bits .or .u64 (rd y167 (ji16)) (ji21))) := ⟨_, rfl⟩
               replace H : (whole_amount_down.l0 k1 a1 y169 l0 (l0.length : Int) (wrap64 (x13_1 + 1))) = some r := by first | (rw [hy169]; with_reducible exact H) | (have H2_ := (Option.bind_some _ _).symm.trans H; rw [hy169]; with_reducible exact H2_) | (have H2_ := (Option.bind_some _ _).symm.trans H; with_reducible exact H2_) | with_reducible exact H | (rw [hy169]; exact H) | exact H
               have Ny169 := Aside0.mk hy169
               clear hy169
               have H' := Aside0.mk H
               clear H
               have p165 : 0 ≤ (x13_1 : Int) := of_decide_eq_true ‹_›
               have q165 : x13_1 < (l0.length : Int) := of_decide_eq_true ‹_›
               obtain ⟨ad165, e165, hx165_0⟩ := Kd.at_int HR0.out x13_1 p165 q165
               cases e165
               replace hx165_0 := (HB.out.cell (World.block_lt_of_cell? w _ hx165_0)).trans hx165_0
               replace p165 := eq_true p165
               replace q165 := eq_true q165
               obtain ⟨Ao23, co23, eo23⟩ := Kd.R_slice HO_5.out
               subst eo23
               have p166 : 0 ≤ (x13_1 : Int) := of_decide_eq_true ‹_›
               have q166 : x13_1 < (x5_1.length : Int) := of_decide_eq_true ‹_›
               obtain ⟨ad166, e166, hx166_0⟩ := Kd.at_int (Kd.R_reads' HO_5.out).2.2 x13_1 p166 q166
               cases e166
               replace p166 := eq_true p166
               replace q166 := eq_true q166
               have p13 : 0 ≤ (x13_1 : Int) := of_decide_eq_true ‹_›
               have q13 : (x13_1 : Int) < ((x5_1.length : Int) : Int) := of_decide_eq_true ‹_›
               obtain ⟨go13, co13, eo13, gb13, gl13, cl13, HG13⟩ := Kd.R_form HO_5.out (by omega)
               (first | cases eo13 | (injection eo13 with ea_ en_ ec_; (first | subst ea_ | (injection ea_ with ea_; subst ea_)); subst ec_; clear en_))
               have GB13 := Aside0.mk gb13
               have GG13 := Aside0.mk HG13
               clear gb13 gl13 HG13
               (first | simp only [add_plain] at hx166_0 | skip)
               obtain ⟨hx13_0, hf13_0⟩ := Kd.R_celln 0 HO_5.out (x13_1 : Int) p13 q13
               replace p13 := eq_true p13
               replace q13 := eq_true q13
               have HP24 := Kd.R_putg HO_5.out (x13_1 : Int) (Go.bits .or .u64 (rd x5_1 x13_1) (ji12))
               go_wp2_with (first | ((with_reducible refine gate_store (t := 59) (p := 26) rfl ?_); refine store_event (t := 59) (p := 26) (v := ?vo_w25) (w1 := (wr.setCell ⟨go13, (x13_1 : Int).toNat, none⟩ (.int .u64 (Go.bits .or .u64 (rd x5_1 x13_1) (ji12))))) ?hg ?ho ?hn ?hr ?_; (case ho => rfl); (case hg => rfl); (case hn => rfl); (case hr => first | (go_simp; done) | (go_simp; rfl)); intro w25 hw; have hg : wr.grownBy w25 (some go13) := (by rw [hw]; exact HP24.2); have hp_ : Kd.R (Kd.int .u64) 59 w25 w.heap.size (fun k_ => (w.heap.size ≤ k_)) (.slice (some ⟨go13, 0, none⟩) x5_1.length co23) y167 := (by rw [hw, Ny167.out]; exact HP24.1); clear HP24; replace HO_5 := Aside0.mk (hp_); replace HB := Aside0.mk ((by rw [hw]; exact below_set (HB.out) GB13.out : Below w.heap.size w w25)); clear hg hw hp_; have p168 : 0 ≤ ((ji16) : Int) := of_decide_eq_true ‹_›; have q168 : (ji16) < (y167.length : Int) := (by have h_ : ((ji16) : Int) < ((x5_1.length : Int) : Int) := of_decide_eq_true ‹_›; first | (have e_ := (Kd.R_reads' HO_5.out).1; omega) | simpa only [Ny167.out, List.length_set] using h_); have ql168 : (((ji16) : Int) < ((x5_1.length : Int) : Int)) = True := eq_true (of_decide_eq_true ‹_›); obtain ⟨ad168, e168, hx168_0⟩ := Kd.at_int (Kd.R_reads' HO_5.out).2.2 (ji16) p168 q168; obtain rfl : (⟨go13, 0, none⟩ : Addr) = ad168 := (by injection e168); (first | simp only [add_plain] at hx168_0 | simp only [add_at] at hx168_0 | simp only [Addr.add, Nat.zero_add] at hx168_0 | skip); replace p168 := eq_true p168; replace q168 := eq_true q168; have p22 : 0 ≤ ((ji16) : Int) := of_decide_eq_true ‹_›; have q22 : ((ji16) : Int) < ((x5_1.length : Int) : Int) := of_decide_eq_true ‹_›; obtain ⟨hx22_0, hf22_0⟩ := Kd.R_celln 0 HO_5.out ((ji16) : Int) p22 q22; replace p22 := eq_true p22; replace q22 := eq_true q22; obtain ⟨hy26_, hz26_⟩ := Kd.R_celln 0 HO_5.out ((ji16) : Int) (of_decide_eq_true ‹_›) (of_decide_eq_true ‹_›); have HP26 := Kd.R_putg HO_5.out ((ji16) : Int) (Go.bits .or .u64 (rd y167 (ji16)) (ji21))) | ((with_reducible refine gate_store (t := 59) (p := 43) rfl ?_); refine store_event (t := 59) (p := 43) (v := ?vo_w27) (w1 := (w25.setCell ⟨go13, ((ji16) : Int).toNat, none⟩ (.int .u64 (Go.bits .or .u64 (rd y167 (ji16)) (ji21))))) ?hg ?ho ?hn ?hr ?_; (case ho => rfl); (case hg => rfl); (case hn => rfl); (case hr => first | (go_simp; done) | (go_simp; rfl)); intro w27 hw; have hg : w25.grownBy w27 (some go13) := (by rw [hw]; exact HP26.2); have hp_ : Kd.R (Kd.int .u64) 59 w27 w.heap.size (fun k_ => (w.heap.size ≤ k_)) (.slice (some ⟨go13, 0, none⟩) x5_1.length co23) y169 := (by rw [hw, Ny169.out]; exact HP26.1); clear HP26; replace HO_5 := Aside0.mk (hp_); replace HB := Aside0.mk ((by rw [hw]; exact below_set (HB.out) GB13.out : Below w.heap.size w w27)); clear hg hw hp_))
               go_roundg k1
               case measure => have := HK1.out; omega
               case rel => exact ⟨(y169), (wrap64 (x13_1 + 1)), (by first | rfl | (simp; done) | (simp [*]; done)), H', ⟨by have := HK1.out; omega⟩, ⟨kru HO_5.out⟩, ⟨khu HB.out⟩⟩
              rw [if_neg c20] at H
              exact absurd H (by simp)
             rw [if_neg c18] at H
             exact absurd H (by simp)
            rw [if_neg c17] at H
            exact absurd H (by simp)
           rw [if_neg c15] at H
           have c15b0 : decide (0 < x13_1) = false := decide_eq_false c15
           clear c15
           have H' := Aside0.mk H
           clear H
           have p165 : 0 ≤ (x13_1 : Int) := of_decide_eq_true ‹_›
           have q165 : x13_1 < (l0.length : Int) := of_decide_eq_true ‹_›
           obtain ⟨ad165, e165, hx165_0⟩ := Kd.at_int HR0.out x13_1 p165 q165
           cases e165
           replace hx165_0 := (HB.out.cell (World.block_lt_of_cell? w _ hx165_0)).trans hx165_0
           replace p165 := eq_true p165
           replace q165 := eq_true q165
           obtain ⟨Ao28, co28, eo28⟩ := Kd.R_slice HO_5.out
           subst eo28
           have p166 : 0 ≤ (x13_1 : Int) := of_decide_eq_true ‹_›
           have q166 : x13_1 < (x5_1.length : Int) := of_decide_eq_true ‹_›
           obtain ⟨ad166, e166, hx166_0⟩ := Kd.at_int (Kd.R_reads' HO_5.out).2.2 x13_1 p166 q166
           cases e166
           replace p166 := eq_true p166
           replace q166 := eq_true q166
           have p13 : 0 ≤ (x13_1 : Int) := of_decide_eq_true ‹_›
           have q13 : (x13_1 : Int) < ((x5_1.length : Int) : Int) := of_decide_eq_true ‹_›
           obtain ⟨go13, co13, eo13, gb13, gl13, cl13, HG13⟩ := Kd.R_form HO_5.out (by omega)
           (first | cases eo13 | (injection eo13 with ea_ en_ ec_; (first | subst ea_ | (injection ea_ with ea_; subst ea_)); subst ec_; clear en_))
           have GB13 := Aside0.mk gb13
           have GG13 := Aside0.mk HG13
           clear gb13 gl13 HG13
           (first | simp only [add_plain] at hx166_0 | skip)
           obtain ⟨hx13_0, hf13_0⟩ := Kd.R_celln 0 HO_5.out (x13_1 : Int) p13 q13
           replace p13 := eq_true p13
           replace q13 := eq_true q13
           have HP29 := Kd.R_putg HO_5.out (x13_1 : Int) (Go.bits .or .u64 (rd x5_1 x13_1) (ji12))
           go_wp2_with (first | ((with_reducible refine gate_store (t := 59) (p := 26) rfl ?_); refine store_event (t := 59) (p := 26) (v := ?vo_w30) (w1 := (wr.setCell ⟨go13, (x13_1 : Int).toNat, none⟩ (.int .u64 (Go.bits .or .u64 (rd x5_1 x13_1) (ji12))))) ?hg ?ho ?hn ?hr ?_; (case ho => rfl); (case hg => rfl); (case hn => rfl); (case hr => first | (go_simp; done) | (go_simp; rfl)); intro w30 hw; have hg : wr.grownBy w30 (some go13) := (by rw [hw]; exact HP29.2); have hp_ : Kd.R (Kd.int .u64) 59 w30 w.heap.size (fun k_ => (w.heap.size ≤ k_)) (.slice (some ⟨go13, 0, none⟩) x5_1.length co28) y167 := (by rw [hw, Ny167.out]; exact HP29.1); clear HP29; replace HO_5 := Aside0.mk (hp_); replace HB := Aside0.mk ((by rw [hw]; exact below_set (HB.out) GB13.out : Below w.heap.size w w30)); clear hg hw hp_))
           go_roundg k1
           case measure => have := HK1.out; omega
           case rel => exact ⟨(y167), (wrap64 (x13_1 + 1)), (by first | rfl | (simp; done) | (simp [*]; done)), H', ⟨by have := HK1.out; omega⟩, ⟨kru HO_5.out⟩, ⟨khu HB.out⟩⟩
          rw [if_neg c14] at H
          have c14b0 : decide (0 < a1) = false := decide_eq_false c14
          clear c14
          have H' := Aside0.mk H
          clear H
          have p165 : 0 ≤ (x13_1 : Int) := of_decide_eq_true ‹_›
          have q165 : x13_1 < (l0.length : Int) := of_decide_eq_true ‹_›
          obtain ⟨ad165, e165, hx165_0⟩ := Kd.at_int HR0.out x13_1 p165 q165
          cases e165
          replace hx165_0 := (HB.out.cell (World.block_lt_of_cell? w _ hx165_0)).trans hx165_0
          replace p165 := eq_true p165
          replace q165 := eq_true q165
          obtain ⟨Ao31, co31, eo31⟩ := Kd.R_slice HO_5.out
          subst eo31
          have p166 : 0 ≤ (x13_1 : Int) := of_decide_eq_true ‹_›
          have q166 : x13_1 < (x5_1.length : Int) := of_decide_eq_true ‹_›
          obtain ⟨ad166, e166, hx166_0⟩ := Kd.at_int (Kd.R_reads' HO_5.out).2.2 x13_1 p166 q166
          cases e166
          replace p166 := eq_true p166
          replace q166 := eq_true q166
          have p13 : 0 ≤ (x13_1 : Int) := of_decide_eq_true ‹_›
          have q13 : (x13_1 : Int) < ((x5_1.length : Int) : Int) := of_decide_eq_true ‹_›
          obtain ⟨go13, co13, eo13, gb13, gl13, cl13, HG13⟩ := Kd.R_form HO_5.out (by omega)
          (first | cases eo13 | (injection eo13 with ea_ en_ ec_; (first | subst ea_ | (injection ea_ with ea_; subst ea_)); subst ec_; clear en_))
          have GB13 := Aside0.mk gb13
          have GG13 := Aside0.mk HG13
          clear gb13 gl13 HG13
          (first | simp only [add_plain] at hx166_0 | skip)
          obtain ⟨hx13_0, hf13_0⟩ := Kd.R_celln 0 HO_5.out (x13_1 : Int) p13 q13
          replace p13 := eq_true p13
          replace q13 := eq_true q13
          have HP32 := Kd.R_putg HO_5.out (x13_1 : Int) (Go.bits .or .u64 (rd x5_1 x13_1) (ji12))
          go_wp2_with (first | ((with_reducible refine gate_store (t := 59) (p := 26) rfl ?_); refine store_event (t := 59) (p := 26) (v := ?vo_w33) (w1 := (wr.setCell ⟨go13, (x13_1 : Int).toNat, none⟩ (.int .u64 (Go.bits .or .u64 (rd x5_1 x13_1) (ji12))))) ?hg ?ho ?hn ?hr ?_; (case ho => rfl); (case hg => rfl); (case hn => rfl); (case hr => first | (go_simp; done) | (go_simp; rfl)); intro w33 hw; have hg : wr.grownBy w33 (some go13) := (by rw [hw]; exact HP32.2); have hp_ : Kd.R (Kd.int .u64) 59 w33 w.heap.size (fun k_ => (w.heap.size ≤ k_)) (.slice (some ⟨go13, 0, none⟩) x5_1.length co31) y167 := (by rw [hw, Ny167.out]; exact HP32.1); clear HP32; replace HO_5 := Aside0.mk (hp_); replace HB := Aside0.mk ((by rw [hw]; exact below_set (HB.out) GB13.out : Below w.heap.size w w33)); clear hg hw hp_))
          go_roundg k1
          case measure => have := HK1.out; omega
          case rel => exact ⟨(y167), (wrap64 (x13_1 + 1)), (by first | rfl | (simp; done) | (simp [*]; done)), H', ⟨by have := HK1.out; omega⟩, ⟨kru HO_5.out⟩, ⟨khu HB.out⟩⟩
         rw [if_neg c11] at H
         exact absurd H (by simp)
        rw [if_neg c10] at H
        exact absurd H (by simp)
       rw [if_neg c9] at H
       exact absurd H (by simp)
      rw [if_neg c8] at H
      exact absurd H (by simp)
     rw [if_neg c7] at H
     have c7b0 : decide (x13_1 < (l0.length : Int)) = false := decide_eq_false c7
     clear c7
     replace H := Option.bind_eq_some_iff.mp H
     obtain ⟨t170, A340, H⟩ := H
     replace H : (some t170) = some r := H
     have A34 := Aside0.mk A340
     clear A340
     obtain rfl := Option.some.inj H
     obtain ⟨Ao35, co35, eo35⟩ := Kd.R_slice HO_5.out
     subst eo35
     go_wp2_with (first | ((with_reducible refine gate_callee (f := 83) rfl ?_); refine kgl (some 46) rfl rfl Tryd.func83 #[.slice Ao35 x5_1.length co35] rfl ?_; (with_reducible refine (whole_trimmed.calls k1 (fun k_ => some k_ = (.slice Ao35 x5_1.length co35 : Value).ownBlock) _ _ x5_1 t170 _ ?side1 A34.out).mono ?_); (case side1 => exact Kd.R_V (Kd.R_tight rfl (HO_5.out))); rintro e w36 ⟨v171, rfl, ho0, hb⟩; refine ⟨_, rfl, ?_⟩; have HO172 := Aside0.mk (Kd.V_lower (Kd.V_mono (ok' := fun k_ => (w.heap.size ≤ k_)) ho0 (fun k_ hk_ => Or.elim hk_ (fun hs_ => ((HO_5.out).1 k_ hs_.symm)) (fun hn_ => (Nat.le_trans (below_size (khu HB.out)) hn_)))) (below_size (khu HB.out))); replace HO_5 := krb HO_5 hb; replace HB := kbs HB hb; (try clear hb); (try clear hb2); (try clear hk); (try clear hi); (try clear ho0)))
     go_ret
     exact ⟨_, by first | rfl | (simp [*, errW_none, errW_some] <;> rfl), kvu HO172.out, khu HB.out⟩
  rw [if_neg c4] at H
  exact absurd H (by simp)
 rw [if_neg c3] at H
 exact absurd H (by simp)
end Go.Proofs.YtodhkpdcpneeeaaDoor.PDv
namespace Go.Proofs.YtodhkpdcpneeeaaDoor.PDv
open Go.RowKit Go.Proofs.YtodhkpdcpneeeaaDoorW.PrintWords Go.Proofs.YtodhkpdcpneeeaaDoorW.PrintLast Go.Proofs.YtodhkpdcpneeeaaDoorW.PrintMore
open Go.Proofs.YtodhkpdcpneeeaaDoor.Mine
attribute [local go_sem] max2_int min2_int max_two min_two max_three min_three max_four min_four
mutual
def bits_Div64.j2 : Nat → Int → Int → Int → Int → Int → Int → Int → Int → Option (Int × Int)
 | 0, _, _, _, _, _, _, _, _ => none
 | k + 1, x2, x8, x9, x10, x11, x13, x14, x15 => if x9 = 0 then (none) else (bits_Div64.l1 k x2 x8 x9 x10 x14 x15 (IntKind.u64.wrap ((IntKind.u64.wrap ((IntKind.u64.wrap ((IntKind.u64.wrap (x11 * 4294967296)) + x13)) - (IntKind.u64.wrap (x15 * x2)))) - (IntKind.u64.wrap ((IntKind.u64.wrap (Int.tdiv (IntKind.u64.wrap ((IntKind.u64.wrap ((IntKind.u64.wrap (x11 * 4294967296)) + x13)) - (IntKind.u64.wrap (x15 * x2)))) x9)) * x9)))) (IntKind.u64.wrap ((IntKind.u64.wrap ((IntKind.u64.wrap (x11 * 4294967296)) + x13)) - (IntKind.u64.wrap (x15 * x2)))) (IntKind.u64.wrap (Int.tdiv (IntKind.u64.wrap ((IntKind.u64.wrap ((IntKind.u64.wrap (x11 * 4294967296)) + x13)) - (IntKind.u64.wrap (x15 * x2)))) x9)))
def bits_Div64.l1 : Nat → Int → Int → Int → Int → Int → Int → Int → Int → Int → Option (Int × Int)
 | 0, _, _, _, _, _, _, _, _, _ => none
 | k + 1, x2, x8, x9, x10, x14, x15, x16, x17, x18 => if x18 ≥ 4294967296 then (bits_Div64.j4 k x2 x8 x9 x10 x14 x15 x16 x17 x18 true) else (bits_Div64.j4 k x2 x8 x9 x10 x14 x15 x16 x17 x18 (decide ((IntKind.u64.wrap (x18 * x10)) > (IntKind.u64.wrap ((IntKind.u64.wrap (4294967296 * x16)) + x14)))))
def bits_Div64.j4 : Nat → Int → Int → Int → Int → Int → Int → Int → Int → Int → Bool → Option (Int × Int)
 | 0, _, _, _, _, _, _, _, _, _, _ => none
 | k + 1, x2, x8, x9, x10, x14, x15, x16, x17, x18, x113 => if x113 = true then (if (IntKind.u64.wrap (x16 + x9)) ≥ 4294967296 then (if 0 ≤ x8 then (some (IntKind.u64.wrap ((IntKind.u64.wrap (x15 * 4294967296)) + (IntKind.u64.wrap (x18 - 1))), shr .u64 (IntKind.u64.wrap ((IntKind.u64.wrap ((IntKind.u64.wrap (x17 * 4294967296)) + x14)) - (IntKind.u64.wrap ((IntKind.u64.wrap (x18 - 1)) * x2)))) x8)) else (none)) else (bits_Div64.l1 k x2 x8 x9 x10 x14 x15 (IntKind.u64.wrap (x16 + x9)) x17 (IntKind.u64.wrap (x18 - 1)))) else (if 0 ≤ x8 then (some (IntKind.u64.wrap ((IntKind.u64.wrap (x15 * 4294967296)) + x18), shr .u64 (IntKind.u64.wrap ((IntKind.u64.wrap ((IntKind.u64.wrap (x17 * 4294967296)) + x14)) - (IntKind.u64.wrap (x18 * x2)))) x8)) else (none))
def bits_Div64.l0 : Nat → Int → Int → Int → Int → Int → Int → Int → Int → Int → Option (Int × Int)
 | 0, _, _, _, _, _, _, _, _, _ => none
 | k + 1, x2, x8, x9, x10, x11, x13, x14, x15, x16 => if x15 ≥ 4294967296 then (bits_Div64.j1 k x2 x8 x9 x10 x11 x13 x14 x15 x16 true) else (bits_Div64.j1 k x2 x8 x9 x10 x11 x13 x14 x15 x16 (decide ((IntKind.u64.wrap (x15 * x10)) > (IntKind.u64.wrap ((IntKind.u64.wrap (4294967296 * x16)) + x13)))))
def bits_Div64.j1 : Nat → Int → Int → Int → Int → Int → Int → Int → Int → Int → Bool → Option (Int × Int)
 | 0, _, _, _, _, _, _, _, _, _, _ => none
 | k + 1, x2, x8, x9, x10, x11, x13, x14, x15, x16, x78 => if x78 = true then (if (IntKind.u64.wrap (x16 + x9)) ≥ 4294967296 then (bits_Div64.j2 k x2 x8 x9 x10 x11 x13 x14 (IntKind.u64.wrap (x15 - 1))) else (bits_Div64.l0 k x2 x8 x9 x10 x11 x13 x14 (IntKind.u64.wrap (x15 - 1)) (IntKind.u64.wrap (x16 + x9)))) else (bits_Div64.j2 k x2 x8 x9 x10 x11 x13 x14 x15)
end
def bits_Div64.f (k : Nat) (a0 : Int) (a1 : Int) (a2 : Int) : Option (Int × Int) := if a2 = 0 then (none) else (if a2 ≤ a0 then (none) else (if a0 = 0 then (some (IntKind.u64.wrap (Int.tdiv a1 a2), Int.tmod a1 a2)) else ((bits_LeadingZeros64.f a2).bind fun t120 => (if 0 ≤ (IntKind.u64.wrap (t120)) then (if 0 ≤ (IntKind.u64.wrap (64 - (IntKind.u64.wrap (t120)))) then (if ((shl .u64 a2 (IntKind.u64.wrap (t120))) / 4294967296) = 0 then (none) else (bits_Div64.l0 k (shl .u64 a2 (IntKind.u64.wrap (t120))) (IntKind.u64.wrap (t120)) ((shl .u64 a2 (IntKind.u64.wrap (t120))) / 4294967296) (Go.bits .and .u64 (shl .u64 a2 (IntKind.u64.wrap (t120))) 4294967295) (Go.bits .or .u64 (shl .u64 a0 (IntKind.u64.wrap (t120))) (shr .u64 a1 (IntKind.u64.wrap (64 - (IntKind.u64.wrap (t120)))))) ((shl .u64 a1 (IntKind.u64.wrap (t120))) / 4294967296) (Go.bits .and .u64 (shl .u64 a1 (IntKind.u64.wrap (t120))) 4294967295) (IntKind.u64.wrap (Int.tdiv (Go.bits .or .u64 (shl .u64 a0 (IntKind.u64.wrap (t120))) (shr .u64 a1 (IntKind.u64.wrap (64 - (IntKind.u64.wrap (t120)))))) ((shl .u64 a2 (IntKind.u64.wrap (t120))) / 4294967296))) (IntKind.u64.wrap ((Go.bits .or .u64 (shl .u64 a0 (IntKind.u64.wrap (t120))) (shr .u64 a1 (IntKind.u64.wrap (64 - (IntKind.u64.wrap (t120)))))) - (IntKind.u64.wrap ((IntKind.u64.wrap (Int.tdiv (Go.bits .or .u64 (shl .u64 a0 (IntKind.u64.wrap (t120))) (shr .u64 a1 (IntKind.u64.wrap (64 - (IntKind.u64.wrap (t120)))))) ((shl .u64 a2 (IntKind.u64.wrap (t120))) / 4294967296))) * ((shl .u64 a2 (IntKind.u64.wrap (t120))) / 4294967296))))))) else (none)) else (none)))))
theorem bits_Div64.mono_l : ∀ k, (∀ y0 y1 y2 y3 y4 y5 y6 y7, LeO (bits_Div64.j2 k y0 y1 y2 y3 y4 y5 y6 y7) (bits_Div64.j2 (k + 1) y0 y1 y2 y3 y4 y5 y6 y7)) ∧ (∀ y0 y1 y2 y3 y4 y5 y6 y7 y8, LeO (bits_Div64.l1 k y0 y1 y2 y3 y4 y5 y6 y7 y8) (bits_Div64.l1 (k + 1) y0 y1 y2 y3 y4 y5 y6 y7 y8)) ∧ (∀ y0 y1 y2 y3 y4 y5 y6 y7 y8 y9, LeO (bits_Div64.j4 k y0 y1 y2 y3 y4 y5 y6 y7 y8 y9) (bits_Div64.j4 (k + 1) y0 y1 y2 y3 y4 y5 y6 y7 y8 y9)) ∧ (∀ y0 y1 y2 y3 y4 y5 y6 y7 y8, LeO (bits_Div64.l0 k y0 y1 y2 y3 y4 y5 y6 y7 y8) (bits_Div64.l0 (k + 1) y0 y1 y2 y3 y4 y5 y6 y7 y8)) ∧ (∀ y0 y1 y2 y3 y4 y5 y6 y7 y8 y9, LeO (bits_Div64.j1 k y0 y1 y2 y3 y4 y5 y6 y7 y8 y9) (bits_Div64.j1 (k + 1) y0 y1 y2 y3 y4 y5 y6 y7 y8 y9))
 | 0 => ⟨fun _ _ _ _ _ _ _ _ r h => by simp [bits_Div64.j2] at h, fun _ _ _ _ _ _ _ _ _ r h => by simp [bits_Div64.l1] at h, fun _ _ _ _ _ _ _ _ _ _ r h => by simp [bits_Div64.j4] at h, fun _ _ _ _ _ _ _ _ _ r h => by simp [bits_Div64.l0] at h, fun _ _ _ _ _ _ _ _ _ _ r h => by simp [bits_Div64.j1] at h⟩
 | k + 1 => by
  obtain ⟨ih0, ih1, ih2, ih3, ih4⟩ := bits_Div64.mono_l k
  refine ⟨?_, ?_, ?_, ?_, ?_⟩
  ·intro y0 y1 y2 y3 y4 y5 y6 y7
   unfold bits_Div64.j2
   repeat' first
   | (with_reducible exact ih0 _ _ _ _ _ _ _ _)
   | (with_reducible exact ih1 _ _ _ _ _ _ _ _ _)
   | (with_reducible exact ih2 _ _ _ _ _ _ _ _ _ _)
   | (with_reducible exact ih3 _ _ _ _ _ _ _ _ _)
   | (with_reducible exact ih4 _ _ _ _ _ _ _ _ _ _)
   | (with_reducible exact LeO.refl _)
   | (with_reducible exact LeO.none _)
   | (with_reducible refine LeO.ite ?_ ?_)
   | (with_reducible refine LeO.bind ?_ (fun _ => ?_))
   | exact ih0 _ _ _ _ _ _ _ _
   | exact ih1 _ _ _ _ _ _ _ _ _
   | exact ih2 _ _ _ _ _ _ _ _ _ _
   | exact ih3 _ _ _ _ _ _ _ _ _
   | exact ih4 _ _ _ _ _ _ _ _ _ _
   | exact LeO.none _
   | refine LeO.ite ?_ ?_
   | refine LeO.bind ?_ (fun _ => ?_)
  ·intro y0 y1 y2 y3 y4 y5 y6 y7 y8
   unfold bits_Div64.l1
   repeat' first
   | (with_reducible exact ih0 _ _ _ _ _ _ _ _)
   | (with_reducible exact ih1 _ _ _ _ _ _ _ _ _)
   | (with_reducible exact ih2 _ _ _ _ _ _ _ _ _ _)
   | (with_reducible exact ih3 _ _ _ _ _ _ _ _ _)
   | (with_reducible exact ih4 _ _ _ _ _ _ _ _ _ _)
   | (with_reducible exact LeO.refl _)
   | (with_reducible exact LeO.none _)
   | (with_reducible refine LeO.ite ?_ ?_)
   | (with_reducible refine LeO.bind ?_ (fun _ => ?_))
   | exact ih0 _ _ _ _ _ _ _ _
   | exact ih1 _ _ _ _ _ _ _ _ _
   | exact ih2 _ _ _ _ _ _ _ _ _ _
   | exact ih3 _ _ _ _ _ _ _ _ _
   | exact ih4 _ _ _ _ _ _ _ _ _ _
   | exact LeO.none _
   | refine LeO.ite ?_ ?_
   | refine LeO.bind ?_ (fun _ => ?_)
  ·intro y0 y1 y2 y3 y4 y5 y6 y7 y8 y9
   unfold bits_Div64.j4
   repeat' first
   | (with_reducible exact ih0 _ _ _ _ _ _ _ _)
   | (with_reducible exact ih1 _ _ _ _ _ _ _ _ _)
   | (with_reducible exact ih2 _ _ _ _ _ _ _ _ _ _)
   | (with_reducible exact ih3 _ _ _ _ _ _ _ _ _)
   | (with_reducible exact ih4 _ _ _ _ _ _ _ _ _ _)
   | (with_reducible exact LeO.refl _)
   | (with_reducible exact LeO.none _)
   | (with_reducible refine LeO.ite ?_ ?_)
   | (with_reducible refine LeO.bind ?_ (fun _ => ?_))
   | exact ih0 _ _ _ _ _ _ _ _
   | exact ih1 _ _ _ _ _ _ _ _ _
   | exact ih2 _ _ _ _ _ _ _ _ _ _
   | exact ih3 _ _ _ _ _ _ _ _ _
   | exact ih4 _ _ _ _ _ _ _ _ _ _
   | exact LeO.none _
   | refine LeO.ite ?_ ?_
   | refine LeO.bind ?_ (fun _ => ?_)
  ·intro y0 y1 y2 y3 y4 y5 y6 y7 y8
   unfold bits_Div64.l0
   repeat' first
   | (with_reducible exact ih0 _ _ _ _ _ _ _ _)
   | (with_reducible exact ih1 _ _ _ _ _ _ _ _ _)
   | (with_reducible exact ih2 _ _ _ _ _ _ _ _ _ _)
   | (with_reducible exact ih3 _ _ _ _ _ _ _ _ _)
   | (with_reducible exact ih4 _ _ _ _ _ _ _ _ _ _)
   | (with_reducible exact LeO.refl _)
   | (with_reducible exact LeO.none _)
   | (with_reducible refine LeO.ite ?_ ?_)
   | (with_reducible refine LeO.bind ?_ (fun _ => ?_))
   | exact ih0 _ _ _ _ _ _ _ _
   | exact ih1 _ _ _ _ _ _ _ _ _
   | exact ih2 _ _ _ _ _ _ _ _ _ _
   | exact ih3 _ _ _ _ _ _ _ _ _
   | exact ih4 _ _ _ _ _ _ _ _ _ _
   | exact LeO.none _
   | refine LeO.ite ?_ ?_
   | refine LeO.bind ?_ (fun _ => ?_)
  intro y0 y1 y2 y3 y4 y5 y6 y7 y8 y9
  unfold bits_Div64.j1
  repeat' first
  | (with_reducible exact ih0 _ _ _ _ _ _ _ _)
  | (with_reducible exact ih1 _ _ _ _ _ _ _ _ _)
  | (with_reducible exact ih2 _ _ _ _ _ _ _ _ _ _)
  | (with_reducible exact ih3 _ _ _ _ _ _ _ _ _)
  | (with_reducible exact ih4 _ _ _ _ _ _ _ _ _ _)
  | (with_reducible exact LeO.refl _)
  | (with_reducible exact LeO.none _)
  | (with_reducible refine LeO.ite ?_ ?_)
  | (with_reducible refine LeO.bind ?_ (fun _ => ?_))
  | exact ih0 _ _ _ _ _ _ _ _
  | exact ih1 _ _ _ _ _ _ _ _ _
  | exact ih2 _ _ _ _ _ _ _ _ _ _
  | exact ih3 _ _ _ _ _ _ _ _ _
  | exact ih4 _ _ _ _ _ _ _ _ _ _
  | exact LeO.none _
  | refine LeO.ite ?_ ?_
  | refine LeO.bind ?_ (fun _ => ?_)
theorem bits_Div64.mono : ∀ a0 a1 a2 k, LeO (bits_Div64.f k a0 a1 a2) (bits_Div64.f (k + 1) a0 a1 a2) := by
 intro a0 a1 a2 k
 obtain ⟨ih0, ih1, ih2, ih3, ih4⟩ := bits_Div64.mono_l k
 unfold bits_Div64.f
 repeat' first
   | (with_reducible exact ih0 _ _ _ _ _ _ _ _)
   | (with_reducible exact ih1 _ _ _ _ _ _ _ _ _)
   | (with_reducible exact ih2 _ _ _ _ _ _ _ _ _ _)
   | (with_reducible exact ih3 _ _ _ _ _ _ _ _ _)
   | (with_reducible exact ih4 _ _ _ _ _ _ _ _ _ _)
   | (with_reducible exact LeO.refl _)
   | (with_reducible exact LeO.none _)
   | (with_reducible refine LeO.ite ?_ ?_)
   | (with_reducible refine LeO.bind ?_ (fun _ => ?_))
   | exact ih0 _ _ _ _ _ _ _ _
   | exact ih1 _ _ _ _ _ _ _ _ _
   | exact ih2 _ _ _ _ _ _ _ _ _ _
   | exact ih3 _ _ _ _ _ _ _ _ _
   | exact ih4 _ _ _ _ _ _ _ _ _ _
   | exact LeO.none _
   | refine LeO.ite ?_ ?_
   | refine LeO.bind ?_ (fun _ => ?_)
theorem bits_Div64.calls (k : Nat) (a0 : Int) (a1 : Int) (a2 : Int) (r1 : Int) (r2 : Int) (w : World) (h : bits_Div64.f k a0 a1 a2 = some (r1, r2)) :
  Calls Tryd.prog 97 #[.int .u64 a0, .int .u64 a1, .int .u64 a2] w fun e w' => e = .returned (.tuple #[.int .u64 r1, .int .u64 r2]) ∧ Drawn0 w w' := by
 have H : (if a2 = 0 then (none) else (if a2 ≤ a0 then (none) else (if a0 = 0 then (some (IntKind.u64.wrap (Int.tdiv a1 a2), Int.tmod a1 a2)) else ((bits_LeadingZeros64.f a2).bind fun t120 => (if 0 ≤ (IntKind.u64.wrap (t120)) then (if 0 ≤ (IntKind.u64.wrap (64 - (IntKind.u64.wrap (t120)))) then (if ((shl .u64 a2 (IntKind.u64.wrap (t120))) / 4294967296) = 0 then (none) else (bits_Div64.l0 k (shl .u64 a2 (IntKind.u64.wrap (t120))) (IntKind.u64.wrap (t120)) ((shl .u64 a2 (IntKind.u64.wrap (t120))) / 4294967296) (Go.bits .and .u64 (shl .u64 a2 (IntKind.u64.wrap (t120))) 4294967295) (Go.bits .or .u64 (shl .u64 a0 (IntKind.u64.wrap (t120))) (shr .u64 a1 (IntKind.u64.wrap (64 - (IntKind.u64.wrap (t120)))))) ((shl .u64 a1 (IntKind.u64.wrap (t120))) / 4294967296) (Go.bits .and .u64 (shl .u64 a1 (IntKind.u64.wrap (t120))) 4294967295) (IntKind.u64.wrap (Int.tdiv (Go.bits .or .u64 (shl .u64 a0 (IntKind.u64.wrap (t120))) (shr .u64 a1 (IntKind.u64.wrap (64 - (IntKind.u64.wrap (t120)))))) ((shl .u64 a2 (IntKind.u64.wrap (t120))) / 4294967296))) (IntKind.u64.wrap ((Go.bits .or .u64 (shl .u64 a0 (IntKind.u64.wrap (t120))) (shr .u64 a1 (IntKind.u64.wrap (64 - (IntKind.u64.wrap (t120)))))) - (IntKind.u64.wrap ((IntKind.u64.wrap (Int.tdiv (Go.bits .or .u64 (shl .u64 a0 (IntKind.u64.wrap (t120))) (shr .u64 a1 (IntKind.u64.wrap (64 - (IntKind.u64.wrap (t120)))))) ((shl .u64 a2 (IntKind.u64.wrap (t120))) / 4294967296))) * ((shl .u64 a2 (IntKind.u64.wrap (t120))) / 4294967296))))))) else (none)) else (none)))))) = some (r1, r2) := h
 clear h
 by_cases c4 : a2 = 0
 ·rw [if_pos c4] at H
  exact absurd H (by simp)
 rw [if_neg c4] at H
 have c4b0 : (a2 == 0) = false := beq_eq_false_iff_ne.mpr c4
 have c4b1 : (a2 != 0) = true := bne_iff_ne.mpr c4
 by_cases c5 : a2 ≤ a0
 ·rw [if_pos c5] at H
  exact absurd H (by simp)
 rw [if_neg c5] at H
 have c5b0 : decide (a2 ≤ a0) = false := decide_eq_false c5
 clear c5
 by_cases c6 : a0 = 0
 ·rw [if_pos c6] at H
  have c6b0 : (a0 == 0) = true := beq_iff_eq.mpr c6
  have c6b1 : (a0 != 0) = false := bne_eq_false_iff_eq.mpr c6
  clear c6
  simp only [Option.some.injEq, Prod.mk.injEq] at H
  obtain ⟨rfl, rfl⟩ := H
  go_enter Tryd.func97, Tryd.ntmps97
  go_wp2
  repeat (go_quiet (fail); try go_wp2)
  go_ret2
  exact ⟨by first | rfl | (simp; done) | (simp [*]; done), by repeat (first | exact Drawn0.refl _ | apply Drawn0.step)⟩
 rw [if_neg c6] at H
 have c6b0 : (a0 == 0) = false := beq_eq_false_iff_ne.mpr c6
 have c6b1 : (a0 != 0) = true := bne_iff_ne.mpr c6
 replace H := Option.bind_eq_some_iff.mp H
 obtain ⟨t120, A70, H⟩ := H
 replace H : (if 0 ≤ (IntKind.u64.wrap (t120)) then (if 0 ≤ (IntKind.u64.wrap (64 - (IntKind.u64.wrap (t120)))) then (if ((shl .u64 a2 (IntKind.u64.wrap (t120))) / 4294967296) = 0 then (none) else (bits_Div64.l0 k (shl .u64 a2 (IntKind.u64.wrap (t120))) (IntKind.u64.wrap (t120)) ((shl .u64 a2 (IntKind.u64.wrap (t120))) / 4294967296) (Go.bits .and .u64 (shl .u64 a2 (IntKind.u64.wrap (t120))) 4294967295) (Go.bits .or .u64 (shl .u64 a0 (IntKind.u64.wrap (t120))) (shr .u64 a1 (IntKind.u64.wrap (64 - (IntKind.u64.wrap (t120)))))) ((shl .u64 a1 (IntKind.u64.wrap (t120))) / 4294967296) (Go.bits .and .u64 (shl .u64 a1 (IntKind.u64.wrap (t120))) 4294967295) (IntKind.u64.wrap (Int.tdiv (Go.bits .or .u64 (shl .u64 a0 (IntKind.u64.wrap (t120))) (shr .u64 a1 (IntKind.u64.wrap (64 - (IntKind.u64.wrap (t120)))))) ((shl .u64 a2 (IntKind.u64.wrap (t120))) / 4294967296))) (IntKind.u64.wrap ((Go.bits .or .u64 (shl .u64 a0 (IntKind.u64.wrap (t120))) (shr .u64 a1 (IntKind.u64.wrap (64 - (IntKind.u64.wrap (t120)))))) - (IntKind.u64.wrap ((IntKind.u64.wrap (Int.tdiv (Go.bits .or .u64 (shl .u64 a0 (IntKind.u64.wrap (t120))) (shr .u64 a1 (IntKind.u64.wrap (64 - (IntKind.u64.wrap (t120)))))) ((shl .u64 a2 (IntKind.u64.wrap (t120))) / 4294967296))) * ((shl .u64 a2 (IntKind.u64.wrap (t120))) / 4294967296))))))) else (none)) else (none)) = some (r1, r2) := H
 have A7 := Aside0.mk A70
 clear A70
 obtain ⟨ji8, hji8⟩ : ∃ j_ : Int, (IntKind.u64.wrap (t120)) = j_ := ⟨_, rfl⟩
 replace H : (if 0 ≤ (ji8) then (if 0 ≤ (IntKind.u64.wrap (64 - (ji8))) then (if ((shl .u64 a2 (ji8)) / 4294967296) = 0 then (none) else (bits_Div64.l0 k (shl .u64 a2 (ji8)) ji8 ((shl .u64 a2 (ji8)) / 4294967296) (Go.bits .and .u64 (shl .u64 a2 (ji8)) 4294967295) (Go.bits .or .u64 (shl .u64 a0 (ji8)) (shr .u64 a1 (IntKind.u64.wrap (64 - (ji8))))) ((shl .u64 a1 (ji8)) / 4294967296) (Go.bits .and .u64 (shl .u64 a1 (ji8)) 4294967295) (IntKind.u64.wrap (Int.tdiv (Go.bits .or .u64 (shl .u64 a0 (ji8)) (shr .u64 a1 (IntKind.u64.wrap (64 - (ji8))))) ((shl .u64 a2 (ji8)) / 4294967296))) (IntKind.u64.wrap ((Go.bits .or .u64 (shl .u64 a0 (ji8)) (shr .u64 a1 (IntKind.u64.wrap (64 - (ji8))))) - (IntKind.u64.wrap ((IntKind.u64.wrap (Int.tdiv (Go.bits .or .u64 (shl .u64 a0 (ji8)) (shr .u64 a1 (IntKind.u64.wrap (64 - (ji8))))) ((shl .u64 a2 (ji8)) / 4294967296))) * ((shl .u64 a2 (ji8)) / 4294967296))))))) else (none)) else (none)) = some (r1, r2) := by first | (rw [hji8] at H; exact H) | (simp only [hji8] at H ⊢; exact H)
 (try rw [hji8] at A7)
 by_cases c9 : 0 ≤ (ji8)
 ·rw [if_pos c9] at H
  have c9b0 := eq_true c9
  have c9b1 : decide (0 ≤ (ji8)) = true := decide_eq_true c9
  clear c9
  obtain ⟨ji10, hji10⟩ : ∃ j_ : Int, (shl .u64 a2 (ji8)) = j_ := ⟨_, rfl⟩
  replace H : (if 0 ≤ (IntKind.u64.wrap (64 - (ji8))) then (if ((ji10) / 4294967296) = 0 then (none) else (bits_Div64.l0 k ji10 ji8 ((ji10) / 4294967296) (Go.bits .and .u64 (ji10) 4294967295) (Go.bits .or .u64 (shl .u64 a0 (ji8)) (shr .u64 a1 (IntKind.u64.wrap (64 - (ji8))))) ((shl .u64 a1 (ji8)) / 4294967296) (Go.bits .and .u64 (shl .u64 a1 (ji8)) 4294967295) (IntKind.u64.wrap (Int.tdiv (Go.bits .or .u64 (shl .u64 a0 (ji8)) (shr .u64 a1 (IntKind.u64.wrap (64 - (ji8))))) ((ji10) / 4294967296))) (IntKind.u64.wrap ((Go.bits .or .u64 (shl .u64 a0 (ji8)) (shr .u64 a1 (IntKind.u64.wrap (64 - (ji8))))) - (IntKind.u64.wrap ((IntKind.u64.wrap (Int.tdiv (Go.bits .or .u64 (shl .u64 a0 (ji8)) (shr .u64 a1 (IntKind.u64.wrap (64 - (ji8))))) ((ji10) / 4294967296))) * ((ji10) / 4294967296))))))) else (none)) = some (r1, r2) := by first | (rw [hji10] at H; exact H) | (simp only [hji10] at H ⊢; exact H)
  (try rw [hji10] at A7)
  have hji10_ : (IntKind.u64.wrap (a2 * 2 ^ min (ji8).toNat 64)) = ji10 := hji10
  have hji10z : (ji8) ≤ 64 → (IntKind.u64.wrap (a2 * 2 ^ (ji8).toNat)) = ji10 := shl_small hji10
  have c11b0 := eq_true (of_decide_eq_true ‹_› : 0 ≤ (ji8))
  obtain ⟨ji12, hji12⟩ : ∃ j_ : Int, (shl .u64 a0 (ji8)) = j_ := ⟨_, rfl⟩
  replace H : (if 0 ≤ (IntKind.u64.wrap (64 - (ji8))) then (if ((ji10) / 4294967296) = 0 then (none) else (bits_Div64.l0 k ji10 ji8 ((ji10) / 4294967296) (Go.bits .and .u64 (ji10) 4294967295) (Go.bits .or .u64 (ji12) (shr .u64 a1 (IntKind.u64.wrap (64 - (ji8))))) ((shl .u64 a1 (ji8)) / 4294967296) (Go.bits .and .u64 (shl .u64 a1 (ji8)) 4294967295) (IntKind.u64.wrap (Int.tdiv (Go.bits .or .u64 (ji12) (shr .u64 a1 (IntKind.u64.wrap (64 - (ji8))))) ((ji10) / 4294967296))) (IntKind.u64.wrap ((Go.bits .or .u64 (ji12) (shr .u64 a1 (IntKind.u64.wrap (64 - (ji8))))) - (IntKind.u64.wrap ((IntKind.u64.wrap (Int.tdiv (Go.bits .or .u64 (ji12) (shr .u64 a1 (IntKind.u64.wrap (64 - (ji8))))) ((ji10) / 4294967296))) * ((ji10) / 4294967296))))))) else (none)) = some (r1, r2) := by first | (rw [hji12] at H; exact H) | (simp only [hji12] at H ⊢; exact H)
  (try rw [hji12] at A7)
  have hji12_ : (IntKind.u64.wrap (a0 * 2 ^ min (ji8).toNat 64)) = ji12 := hji12
  have hji12z : (ji8) ≤ 64 → (IntKind.u64.wrap (a0 * 2 ^ (ji8).toNat)) = ji12 := shl_small hji12
  obtain ⟨ji13, hji13⟩ : ∃ j_ : Int, (IntKind.u64.wrap (64 - (ji8))) = j_ := ⟨_, rfl⟩
  replace H : (if 0 ≤ (ji13) then (if ((ji10) / 4294967296) = 0 then (none) else (bits_Div64.l0 k ji10 ji8 ((ji10) / 4294967296) (Go.bits .and .u64 (ji10) 4294967295) (Go.bits .or .u64 (ji12) (shr .u64 a1 (ji13))) ((shl .u64 a1 (ji8)) / 4294967296) (Go.bits .and .u64 (shl .u64 a1 (ji8)) 4294967295) (IntKind.u64.wrap (Int.tdiv (Go.bits .or .u64 (ji12) (shr .u64 a1 (ji13))) ((ji10) / 4294967296))) (IntKind.u64.wrap ((Go.bits .or .u64 (ji12) (shr .u64 a1 (ji13))) - (IntKind.u64.wrap ((IntKind.u64.wrap (Int.tdiv (Go.bits .or .u64 (ji12) (shr .u64 a1 (ji13))) ((ji10) / 4294967296))) * ((ji10) / 4294967296))))))) else (none)) = some (r1, r2) := by first | (rw [hji13] at H; exact H) | (simp only [hji13] at H ⊢; exact H)
  (try rw [hji13] at A7)
  by_cases c14 : 0 ≤ (ji13)
  ·rw [if_pos c14] at H
   have c14b0 := eq_true c14
   have c14b1 : decide (0 ≤ (ji13)) = true := decide_eq_true c14
   clear c14
   obtain ⟨ji15, hji15⟩ : ∃ j_ : Int, (shr .u64 a1 (ji13)) = j_ := ⟨_, rfl⟩
   replace H : (if ((ji10) / 4294967296) = 0 then (none) else (bits_Div64.l0 k ji10 ji8 ((ji10) / 4294967296) (Go.bits .and .u64 (ji10) 4294967295) (Go.bits .or .u64 (ji12) (ji15)) ((shl .u64 a1 (ji8)) / 4294967296) (Go.bits .and .u64 (shl .u64 a1 (ji8)) 4294967295) (IntKind.u64.wrap (Int.tdiv (Go.bits .or .u64 (ji12) (ji15)) ((ji10) / 4294967296))) (IntKind.u64.wrap ((Go.bits .or .u64 (ji12) (ji15)) - (IntKind.u64.wrap ((IntKind.u64.wrap (Int.tdiv (Go.bits .or .u64 (ji12) (ji15)) ((ji10) / 4294967296))) * ((ji10) / 4294967296))))))) = some (r1, r2) := by first | (rw [hji15] at H; exact H) | (simp only [hji15] at H ⊢; exact H)
   (try rw [hji15] at A7)
   have hji15_ : (a1 / 2 ^ min (ji13).toNat 64) = ji15 := hji15
   have hji15z : (ji13) ≤ 64 → (a1 / 2 ^ (ji13).toNat) = ji15 := shr_small hji15
   have c16b0 := eq_true (of_decide_eq_true ‹_› : 0 ≤ (ji8))
   obtain ⟨ji17, hji17⟩ : ∃ j_ : Int, (shl .u64 a1 (ji8)) = j_ := ⟨_, rfl⟩
   replace H : (if ((ji10) / 4294967296) = 0 then (none) else (bits_Div64.l0 k ji10 ji8 ((ji10) / 4294967296) (Go.bits .and .u64 (ji10) 4294967295) (Go.bits .or .u64 (ji12) (ji15)) ((ji17) / 4294967296) (Go.bits .and .u64 (ji17) 4294967295) (IntKind.u64.wrap (Int.tdiv (Go.bits .or .u64 (ji12) (ji15)) ((ji10) / 4294967296))) (IntKind.u64.wrap ((Go.bits .or .u64 (ji12) (ji15)) - (IntKind.u64.wrap ((IntKind.u64.wrap (Int.tdiv (Go.bits .or .u64 (ji12) (ji15)) ((ji10) / 4294967296))) * ((ji10) / 4294967296))))))) = some (r1, r2) := by first | (rw [hji17] at H; exact H) | (simp only [hji17] at H ⊢; exact H)
   (try rw [hji17] at A7)
   have hji17_ : (IntKind.u64.wrap (a1 * 2 ^ min (ji8).toNat 64)) = ji17 := hji17
   have hji17z : (ji8) ≤ 64 → (IntKind.u64.wrap (a1 * 2 ^ (ji8).toNat)) = ji17 := shl_small hji17
   by_cases c18 : ((ji10) / 4294967296) = 0
   ·rw [if_pos c18] at H
    exact absurd H (by simp)
   rw [if_neg c18] at H
   have c18b0 : (((ji10) / 4294967296) == 0) = false := beq_eq_false_iff_ne.mpr c18
   have c18b1 : (((ji10) / 4294967296) != 0) = true := bne_iff_ne.mpr c18
   have HC19 := Aside0.mk H
   clear H
   go_enter Tryd.func97, Tryd.ntmps97
   go_upto_block 0 with (first | (go_at_call 112; (with_reducible refine (bits_LeadingZeros64.calls a2 t120 _ A7.out).mono ?_); rintro e w' ⟨rfl, ⟨nd, rfl⟩⟩; (try first | exact ⟨rfl, _, World.drewN_drewN _ _ _⟩ | exact ⟨rfl, _, Eq.trans (World.drewN_drewN _ _ _) (congrArg (World.drewN _) (Nat.add_assoc _ _ _))⟩)))
   repeat (go_quiet (first | (go_at_call 112; (with_reducible refine (bits_LeadingZeros64.calls a2 t120 _ A7.out).mono ?_); rintro e w' ⟨rfl, ⟨nd, rfl⟩⟩; (try first | exact ⟨rfl, _, World.drewN_drewN _ _ _⟩ | exact ⟨rfl, _, Eq.trans (World.drewN_drewN _ _ _) (congrArg (World.drewN _) (Nat.add_assoc _ _ _))⟩))); go_upto_block 0 with (first | (go_at_call 112; (with_reducible refine (bits_LeadingZeros64.calls a2 t120 _ A7.out).mono ?_); rintro e w' ⟨rfl, ⟨nd, rfl⟩⟩; (try first | exact ⟨rfl, _, World.drewN_drewN _ _ _⟩ | exact ⟨rfl, _, Eq.trans (World.drewN_drewN _ _ _) (congrArg (World.drewN _) (Nat.add_assoc _ _ _))⟩))))
   (try simp only [Act.put, kss])
   go_cut [15] (fun v15 wc => ∃ (kq : Nat) (x15_18 : Int), v15 = .int .u64 x15_18 ∧ Aside0 (bits_Div64.j2 kq ji10 ji8 ((ji10) / 4294967296) (Go.bits .and .u64 (ji10) 4294967295) (Go.bits .or .u64 (ji12) (ji15)) ((ji17) / 4294967296) (Go.bits .and .u64 (ji17) 4294967295) x15_18 = some (r1, r2)) ∧ Aside0 (kq ≤ k) ∧ Drawn0 w wc)
   case first =>
    have H := HC19.out
    clear HC19
    have H' := Aside0.mk H
    clear H
    go_wp2
    repeat (go_quiet (fail); try go_wp2)
    go_loopg [15, 16] k (fun kq v15 v16 w' => ∃ (x15_1 : Int) (x16_1 : Int), v15 = .int .u64 x15_1 ∧ v16 = .int .u64 x16_1 ∧ Aside0 (bits_Div64.l0 kq ji10 ji8 ((ji10) / 4294967296) (Go.bits .and .u64 (ji10) 4294967295) (Go.bits .or .u64 (ji12) (ji15)) ((ji17) / 4294967296) (Go.bits .and .u64 (ji17) 4294967295) x15_1 x16_1 = some (r1, r2)) ∧ Aside0 (kq ≤ k) ∧ Drawn0 w w')
    case atStart => exact ⟨(IntKind.u64.wrap (Int.tdiv (Go.bits .or .u64 (ji12) (ji15)) ((ji10) / 4294967296))), (IntKind.u64.wrap ((Go.bits .or .u64 (ji12) (ji15)) - (IntKind.u64.wrap ((IntKind.u64.wrap (Int.tdiv (Go.bits .or .u64 (ji12) (ji15)) ((ji10) / 4294967296))) * ((ji10) / 4294967296))))), (by first | rfl | (simp; done) | (simp only [← hji10, ← hji12, ← hji15] <;> (first | rfl | simp)) | (simp [*]; done)), (by first | rfl | (simp; done) | (simp only [← hji10, ← hji12, ← hji15] <;> (first | rfl | simp)) | (simp [*]; done)), H', ⟨Nat.le_refl _⟩, by repeat (first | exact Drawn0.refl _ | apply Drawn0.step)⟩
    case round =>
     clear H'
     try clear c1
     try clear p2
     try clear c4
     try clear c4b0
     try clear c4b1
     try clear c5
     try clear c5b0
     try clear c6
     try clear c6b0
     try clear c6b1
     try clear c9
     try clear c9b0
     try clear c9b1
     try clear c11
     try clear c11b0
     try clear c14
     try clear c14b0
     try clear c14b1
     try clear c16
     try clear c16b0
     try clear c18
     try clear c18b0
     try clear c18b1
     obtain ⟨x15_1, x16_1, rfl, rfl, HA, HK1, ⟨m1, rfl⟩⟩ := hrel
     cases gk with
     | zero => exact absurd HA.out (by simp [bits_Div64.l0])
     | succ k1 =>
      have H := HA.out
      clear HA
      simp only [bits_Div64.l0] at H
      have HC20 := Aside0.mk H
      clear H
      go_upto_region 17 with (fail)
      repeat (go_quiet (fail); go_upto_region 17 with (fail))
      go_cut [78] (fun v78 wc => ∃ (kq : Nat) (x78_19 : Bool), v78 = .bool x78_19 ∧ Aside0 (bits_Div64.j1 kq ji10 ji8 ((ji10) / 4294967296) (Go.bits .and .u64 (ji10) 4294967295) (Go.bits .or .u64 (ji12) (ji15)) ((ji17) / 4294967296) (Go.bits .and .u64 (ji17) 4294967295) x15_1 x16_1 x78_19 = some (r1, r2)) ∧ Aside0 (kq ≤ k1) ∧ Drawn0 w wc)
      case first =>
       have H := HC20.out
       clear HC20
       by_cases c21 : x15_1 ≥ 4294967296
       ·rw [if_pos c21] at H
        have c21b0 : decide (4294967296 ≤ x15_1) = true := decide_eq_true c21
        clear c21
        (first | rw [c21b0] | rw [c21b1] | (simp only [i64_w, i32_w]; rw [c21b0]) | skip)
        have H' := Aside0.mk H
        clear H
        go_wp2
        repeat (go_quiet (fail); try go_wp2)
        go_meet
        case rel => exact ⟨_, (true), (by first | rfl | (simp; done) | (simp [*]; done)), H', ⟨by have := HK1.out; first | omega | exact Nat.le_refl _⟩, by repeat (first | exact Drawn0.refl _ | apply Drawn0.step)⟩
       rw [if_neg c21] at H
       have c21b0 : decide (4294967296 ≤ x15_1) = false := decide_eq_false c21
       clear c21
       (first | rw [c21b0] | rw [c21b1] | (simp only [i64_w, i32_w]; rw [c21b0]) | skip)
       have H' := Aside0.mk H
       clear H
       go_wp2
       repeat (go_quiet (fail); try go_wp2)
       go_meet
       case rel => exact ⟨_, (decide ((IntKind.u64.wrap (x15_1 * (Go.bits .and .u64 (ji10) 4294967295))) > (IntKind.u64.wrap ((IntKind.u64.wrap (4294967296 * x16_1)) + ((ji17) / 4294967296))))), (by first | rfl | (simp; done) | (simp only [← hji10, ← hji17] <;> (first | rfl | simp)) | (simp [*]; done)), H', ⟨by have := HK1.out; first | omega | exact Nat.le_refl _⟩, by repeat (first | exact Drawn0.refl _ | apply Drawn0.step)⟩
      case rest =>
       clear HC20
       try clear c1
       try clear c2
       try clear p2
       try clear c4
       try clear c4b0
       try clear c4b1
       try clear c5
       try clear c5b0
       try clear c6
       try clear c6b0
       try clear c6b1
       try clear c9
       try clear c9b0
       try clear c9b1
       try clear c11
       try clear c11b0
       try clear c14
       try clear c14b0
       try clear c14b1
       try clear c16
       try clear c16b0
       try clear c18
       try clear c18b0
       try clear c18b1
       try clear c21
       try clear c21b0
       try clear c21b1
       try clear p2
       obtain ⟨kq, x78_19, rfl, HA, HJ19, ⟨mc19, rfl⟩⟩ := hcut
       cases kq with
       | zero => exact absurd HA.out (by simp [bits_Div64.j1])
       | succ kj19 =>
        have H := HA.out
        clear HA
        simp only [bits_Div64.j1] at H
        by_cases c22 : x78_19 = true
        ·subst c22
         have H1 : (if (IntKind.u64.wrap (x16_1 + ((ji10) / 4294967296))) ≥ 4294967296 then (bits_Div64.j2 kj19 ji10 ji8 ((ji10) / 4294967296) (Go.bits .and .u64 (ji10) 4294967295) (Go.bits .or .u64 (ji12) (ji15)) ((ji17) / 4294967296) (Go.bits .and .u64 (ji17) 4294967295) (IntKind.u64.wrap (x15_1 - 1))) else (bits_Div64.l0 kj19 ji10 ji8 ((ji10) / 4294967296) (Go.bits .and .u64 (ji10) 4294967295) (Go.bits .or .u64 (ji12) (ji15)) ((ji17) / 4294967296) (Go.bits .and .u64 (ji17) 4294967295) (IntKind.u64.wrap (x15_1 - 1)) (IntKind.u64.wrap (x16_1 + ((ji10) / 4294967296))))) = some (r1, r2) := by rw [if_pos rfl] at H; exact H
         clear H
         have H := H1
         clear H1
         by_cases c23 : (IntKind.u64.wrap (x16_1 + ((ji10) / 4294967296))) ≥ 4294967296
         ·rw [if_pos c23] at H
          have c23b0 : decide (4294967296 ≤ (IntKind.u64.wrap (x16_1 + ((ji10) / 4294967296)))) = true := decide_eq_true c23
          clear c23
          have H' := Aside0.mk H
          clear H
          go_wp2
          repeat (go_quiet (fail); try go_wp2)
          go_meet
          case rel => exact ⟨_, (IntKind.u64.wrap (x15_1 - 1)), (by first | rfl | (simp; done) | (simp [*]; done)), H', ⟨by have := HK1.out; have := HJ19.out; first | omega | exact Nat.le_refl _⟩, by repeat (first | exact Drawn0.refl _ | apply Drawn0.step)⟩
         rw [if_neg c23] at H
         have c23b0 : decide (4294967296 ≤ (IntKind.u64.wrap (x16_1 + ((ji10) / 4294967296)))) = false := decide_eq_false c23
         clear c23
         have H' := Aside0.mk H
         clear H
         go_wp2
         repeat (go_quiet (fail); try go_wp2)
         go_roundg kj19
         case measure => have := HK1.out; have := HJ19.out; omega
         case rel => exact ⟨(IntKind.u64.wrap (x15_1 - 1)), (IntKind.u64.wrap (x16_1 + ((ji10) / 4294967296))), (by first | rfl | (simp; done) | (simp [*]; done)), (by first | rfl | (simp; done) | (simp only [← hji10] <;> (first | rfl | simp)) | (simp [*]; done)), H', ⟨by have := HK1.out; have := HJ19.out; omega⟩, by repeat (first | exact Drawn0.refl _ | apply Drawn0.step)⟩
        replace c22 := Bool.eq_false_iff.mpr c22
        subst c22
        have H1 : (bits_Div64.j2 kj19 ji10 ji8 ((ji10) / 4294967296) (Go.bits .and .u64 (ji10) 4294967295) (Go.bits .or .u64 (ji12) (ji15)) ((ji17) / 4294967296) (Go.bits .and .u64 (ji17) 4294967295) x15_1) = some (r1, r2) := by rw [if_neg (show ¬ (false = true) by decide)] at H; exact H
        clear H
        have H := H1
        clear H1
        have H' := Aside0.mk H
        clear H
        go_wp2
        repeat (go_quiet (fail); try go_wp2)
        go_meet
        case rel => exact ⟨_, (x15_1), (by first | rfl | (simp; done) | (simp [*]; done)), H', ⟨by have := HK1.out; have := HJ19.out; first | omega | exact Nat.le_refl _⟩, by repeat (first | exact Drawn0.refl _ | apply Drawn0.step)⟩
   case rest =>
    clear HC19
    try clear c1
    try clear c2
    try clear p2
    try clear c4
    try clear c4b0
    try clear c4b1
    try clear c5
    try clear c5b0
    try clear c6
    try clear c6b0
    try clear c6b1
    try clear c9
    try clear c9b0
    try clear c9b1
    try clear c11
    try clear c11b0
    try clear c14
    try clear c14b0
    try clear c14b1
    try clear c16
    try clear c16b0
    try clear c18
    try clear c18b0
    try clear c18b1
    try clear c19
    try clear c21
    try clear c21b0
    try clear c21b1
    try clear c22
    try clear c23
    try clear c23b0
    try clear p2
    obtain ⟨kq, x15_18, rfl, HA, HJ18, ⟨mc18, rfl⟩⟩ := hcut
    cases kq with
    | zero => exact absurd HA.out (by simp [bits_Div64.j2])
    | succ kj18 =>
     have H := HA.out
     clear HA
     simp only [bits_Div64.j2] at H
     by_cases c24 : ((ji10) / 4294967296) = 0
     ·rw [if_pos c24] at H
      exact absurd H (by simp)
     rw [if_neg c24] at H
     have c24b0 : (((ji10) / 4294967296) == 0) = false := beq_eq_false_iff_ne.mpr c24
     have c24b1 : (((ji10) / 4294967296) != 0) = true := bne_iff_ne.mpr c24
     have H' := Aside0.mk H
     clear H
     go_wp2
     repeat (go_quiet (fail); try go_wp2)
     go_loopg [16, 18] kj18 (fun kq v16 v18 w' => ∃ (x16_2 : Int) (x18_2 : Int), v16 = .int .u64 x16_2 ∧ v18 = .int .u64 x18_2 ∧ Aside0 (bits_Div64.l1 kq ji10 ji8 ((ji10) / 4294967296) (Go.bits .and .u64 (ji10) 4294967295) (Go.bits .and .u64 (ji17) 4294967295) x15_18 x16_2 (IntKind.u64.wrap ((IntKind.u64.wrap ((IntKind.u64.wrap ((Go.bits .or .u64 (ji12) (ji15)) * 4294967296)) + ((ji17) / 4294967296))) - (IntKind.u64.wrap (x15_18 * ji10)))) x18_2 = some (r1, r2)) ∧ Aside0 (kq ≤ kj18) ∧ Drawn0 w w')
     case atStart => exact ⟨(IntKind.u64.wrap ((IntKind.u64.wrap ((IntKind.u64.wrap ((IntKind.u64.wrap ((Go.bits .or .u64 (ji12) (ji15)) * 4294967296)) + ((ji17) / 4294967296))) - (IntKind.u64.wrap (x15_18 * ji10)))) - (IntKind.u64.wrap ((IntKind.u64.wrap (Int.tdiv (IntKind.u64.wrap ((IntKind.u64.wrap ((IntKind.u64.wrap ((Go.bits .or .u64 (ji12) (ji15)) * 4294967296)) + ((ji17) / 4294967296))) - (IntKind.u64.wrap (x15_18 * ji10)))) ((ji10) / 4294967296))) * ((ji10) / 4294967296))))), (IntKind.u64.wrap (Int.tdiv (IntKind.u64.wrap ((IntKind.u64.wrap ((IntKind.u64.wrap ((Go.bits .or .u64 (ji12) (ji15)) * 4294967296)) + ((ji17) / 4294967296))) - (IntKind.u64.wrap (x15_18 * ji10)))) ((ji10) / 4294967296))), (by first | rfl | (simp; done) | (simp only [← hji10, ← hji12, ← hji15, ← hji17] <;> (first | rfl | simp)) | (simp [*]; done)), (by first | rfl | (simp; done) | (simp only [← hji10, ← hji12, ← hji15, ← hji17] <;> (first | rfl | simp)) | (simp [*]; done)), H', ⟨Nat.le_refl _⟩, by repeat (first | exact Drawn0.refl _ | apply Drawn0.step)⟩
     case round =>
      clear H'
      try clear c1
      try clear c2
      try clear p2
      try clear c4
      try clear c4b0
      try clear c4b1
      try clear c5
      try clear c5b0
      try clear c6
      try clear c6b0
      try clear c6b1
      try clear c9
      try clear c9b0
      try clear c9b1
      try clear c11
      try clear c11b0
      try clear c14
      try clear c14b0
      try clear c14b1
      try clear c16
      try clear c16b0
      try clear c18
      try clear c18b0
      try clear c18b1
      try clear c19
      try clear c21
      try clear c21b0
      try clear c21b1
      try clear c22
      try clear c23
      try clear c23b0
      try clear c24
      try clear c24b0
      try clear c24b1
      try clear p2
      obtain ⟨x16_2, x18_2, rfl, rfl, HA, HK2, ⟨m2, rfl⟩⟩ := hrel
      cases gk with
      | zero => exact absurd HA.out (by simp [bits_Div64.l1])
      | succ k2 =>
       have H := HA.out
       clear HA
       simp only [bits_Div64.l1] at H
       have HC25 := Aside0.mk H
       clear H
       go_upto_region 24 with (fail)
       repeat (go_quiet (fail); go_upto_region 24 with (fail))
       go_cut [113] (fun v113 wc => ∃ (kq : Nat) (x113_24 : Bool), v113 = .bool x113_24 ∧ Aside0 (bits_Div64.j4 kq ji10 ji8 ((ji10) / 4294967296) (Go.bits .and .u64 (ji10) 4294967295) (Go.bits .and .u64 (ji17) 4294967295) x15_18 x16_2 (IntKind.u64.wrap ((IntKind.u64.wrap ((IntKind.u64.wrap ((Go.bits .or .u64 (ji12) (ji15)) * 4294967296)) + ((ji17) / 4294967296))) - (IntKind.u64.wrap (x15_18 * ji10)))) x18_2 x113_24 = some (r1, r2)) ∧ Aside0 (kq ≤ k2) ∧ Drawn0 w wc)
       case first =>
        have H := HC25.out
        clear HC25
        by_cases c26 : x18_2 ≥ 4294967296
        ·rw [if_pos c26] at H
         have c26b0 : decide (4294967296 ≤ x18_2) = true := decide_eq_true c26
         clear c26
         (first | rw [c26b0] | rw [c26b1] | (simp only [i64_w, i32_w]; rw [c26b0]) | skip)
         have H' := Aside0.mk H
         clear H
         go_wp2
         repeat (go_quiet (fail); try go_wp2)
         go_meet
         case rel => exact ⟨_, (true), (by first | rfl | (simp; done) | (simp [*]; done)), H', ⟨by have := HJ18.out; have := HK2.out; first | omega | exact Nat.le_refl _⟩, by repeat (first | exact Drawn0.refl _ | apply Drawn0.step)⟩
        rw [if_neg c26] at H
        have c26b0 : decide (4294967296 ≤ x18_2) = false := decide_eq_false c26
        clear c26
        (first | rw [c26b0] | rw [c26b1] | (simp only [i64_w, i32_w]; rw [c26b0]) | skip)
        have H' := Aside0.mk H
        clear H
        go_wp2
        repeat (go_quiet (fail); try go_wp2)
        go_meet
        case rel => exact ⟨_, (decide ((IntKind.u64.wrap (x18_2 * (Go.bits .and .u64 (ji10) 4294967295))) > (IntKind.u64.wrap ((IntKind.u64.wrap (4294967296 * x16_2)) + (Go.bits .and .u64 (ji17) 4294967295))))), (by first | rfl | (simp; done) | (simp only [← hji10, ← hji17] <;> (first | rfl | simp)) | (simp [*]; done)), H', ⟨by have := HJ18.out; have := HK2.out; first | omega | exact Nat.le_refl _⟩, by repeat (first | exact Drawn0.refl _ | apply Drawn0.step)⟩
       case rest =>
        clear HC25
        try clear c1
        try clear c2
        try clear p2
        try clear c4
        try clear c4b0
        try clear c4b1
        try clear c5
        try clear c5b0
        try clear c6
        try clear c6b0
        try clear c6b1
        try clear c9
        try clear c9b0
        try clear c9b1
        try clear c11
        try clear c11b0
        try clear c14
        try clear c14b0
        try clear c14b1
        try clear c16
        try clear c16b0
        try clear c18
        try clear c18b0
        try clear c18b1
        try clear c19
        try clear c21
        try clear c21b0
        try clear c21b1
        try clear c22
        try clear c23
        try clear c23b0
        try clear c24
        try clear c24b0
        try clear c24b1
        try clear c26
        try clear c26b0
        try clear c26b1
        try clear p2
        obtain ⟨kq, x113_24, rfl, HA, HJ24, ⟨mc24, rfl⟩⟩ := hcut
        cases kq with
        | zero => exact absurd HA.out (by simp [bits_Div64.j4])
        | succ kj24 =>
         have H := HA.out
         clear HA
         simp only [bits_Div64.j4] at H
         by_cases c27 : x113_24 = true
         ·subst c27
          have H1 : (if (IntKind.u64.wrap (x16_2 + ((ji10) / 4294967296))) ≥ 4294967296 then (if 0 ≤ ji8 then (some (IntKind.u64.wrap ((IntKind.u64.wrap (x15_18 * 4294967296)) + (IntKind.u64.wrap (x18_2 - 1))), shr .u64 (IntKind.u64.wrap ((IntKind.u64.wrap ((IntKind.u64.wrap ((IntKind.u64.wrap ((IntKind.u64.wrap ((IntKind.u64.wrap ((Go.bits .or .u64 (ji12) (ji15)) * 4294967296)) + ((ji17) / 4294967296))) - (IntKind.u64.wrap (x15_18 * ji10)))) * 4294967296)) + (Go.bits .and .u64 (ji17) 4294967295))) - (IntKind.u64.wrap ((IntKind.u64.wrap (x18_2 - 1)) * ji10)))) ji8)) else (none)) else (bits_Div64.l1 kj24 ji10 ji8 ((ji10) / 4294967296) (Go.bits .and .u64 (ji10) 4294967295) (Go.bits .and .u64 (ji17) 4294967295) x15_18 (IntKind.u64.wrap (x16_2 + ((ji10) / 4294967296))) (IntKind.u64.wrap ((IntKind.u64.wrap ((IntKind.u64.wrap ((Go.bits .or .u64 (ji12) (ji15)) * 4294967296)) + ((ji17) / 4294967296))) - (IntKind.u64.wrap (x15_18 * ji10)))) (IntKind.u64.wrap (x18_2 - 1)))) = some (r1, r2) := by rw [if_pos rfl] at H; exact H
          clear H
          have H := H1
          clear H1
          by_cases c28 : (IntKind.u64.wrap (x16_2 + ((ji10) / 4294967296))) ≥ 4294967296
          ·rw [if_pos c28] at H
           have c28b0 : decide (4294967296 ≤ (IntKind.u64.wrap (x16_2 + ((ji10) / 4294967296)))) = true := decide_eq_true c28
           clear c28
           by_cases c29 : 0 ≤ ji8
           ·rw [if_pos c29] at H
            have c29b0 := eq_true c29
            have c29b1 : decide (0 ≤ ji8) = true := decide_eq_true c29
            clear c29
            obtain ⟨ji30, hji30⟩ : ∃ j_ : Int, (shr .u64 (IntKind.u64.wrap ((IntKind.u64.wrap ((IntKind.u64.wrap ((IntKind.u64.wrap ((IntKind.u64.wrap ((IntKind.u64.wrap ((Go.bits .or .u64 (ji12) (ji15)) * 4294967296)) + ((ji17) / 4294967296))) - (IntKind.u64.wrap (x15_18 * ji10)))) * 4294967296)) + (Go.bits .and .u64 (ji17) 4294967295))) - (IntKind.u64.wrap ((IntKind.u64.wrap (x18_2 - 1)) * ji10)))) ji8) = j_ := ⟨_, rfl⟩
            replace H : (some (IntKind.u64.wrap ((IntKind.u64.wrap (x15_18 * 4294967296)) + (IntKind.u64.wrap (x18_2 - 1))), ji30)) = some (r1, r2) := by first | (rw [hji30] at H; exact H) | (simp only [hji30] at H ⊢; exact H)
            have hji30_ : ((IntKind.u64.wrap ((IntKind.u64.wrap ((IntKind.u64.wrap ((IntKind.u64.wrap ((IntKind.u64.wrap ((IntKind.u64.wrap ((Go.bits .or .u64 (ji12) (ji15)) * 4294967296)) + ((ji17) / 4294967296))) - (IntKind.u64.wrap (x15_18 * ji10)))) * 4294967296)) + (Go.bits .and .u64 (ji17) 4294967295))) - (IntKind.u64.wrap ((IntKind.u64.wrap (x18_2 - 1)) * ji10)))) / 2 ^ min ji8.toNat 64) = ji30 := hji30
            have hji30z : ji8 ≤ 64 → ((IntKind.u64.wrap ((IntKind.u64.wrap ((IntKind.u64.wrap ((IntKind.u64.wrap ((IntKind.u64.wrap ((IntKind.u64.wrap ((Go.bits .or .u64 (ji12) (ji15)) * 4294967296)) + ((ji17) / 4294967296))) - (IntKind.u64.wrap (x15_18 * ji10)))) * 4294967296)) + (Go.bits .and .u64 (ji17) 4294967295))) - (IntKind.u64.wrap ((IntKind.u64.wrap (x18_2 - 1)) * ji10)))) / 2 ^ ji8.toNat) = ji30 := shr_small hji30
            simp only [Option.some.injEq, Prod.mk.injEq] at H
            obtain ⟨rfl, rfl⟩ := H
            go_wp2
            repeat (go_quiet (fail); try go_wp2)
            go_ret2
            exact ⟨by first | rfl | (simp; done) | (simp only [← hji8, ← hji10, ← hji12, ← hji13, ← hji15, ← hji17, ← hji30] <;> (first | rfl | simp)) | (simp [*]; done), by repeat (first | exact Drawn0.refl _ | apply Drawn0.step)⟩
           rw [if_neg c29] at H
           exact absurd H (by simp)
          rw [if_neg c28] at H
          have c28b0 : decide (4294967296 ≤ (IntKind.u64.wrap (x16_2 + ((ji10) / 4294967296)))) = false := decide_eq_false c28
          clear c28
          have H' := Aside0.mk H
          clear H
          go_wp2
          repeat (go_quiet (fail); try go_wp2)
          go_roundg kj24
          case measure => have := HJ18.out; have := HK2.out; have := HJ24.out; omega
          case rel => exact ⟨(IntKind.u64.wrap (x16_2 + ((ji10) / 4294967296))), (IntKind.u64.wrap (x18_2 - 1)), (by first | rfl | (simp; done) | (simp only [← hji10] <;> (first | rfl | simp)) | (simp [*]; done)), (by first | rfl | (simp; done) | (simp [*]; done)), H', ⟨by have := HJ18.out; have := HK2.out; have := HJ24.out; omega⟩, by repeat (first | exact Drawn0.refl _ | apply Drawn0.step)⟩
         replace c27 := Bool.eq_false_iff.mpr c27
         subst c27
         have H1 : (if 0 ≤ ji8 then (some (IntKind.u64.wrap ((IntKind.u64.wrap (x15_18 * 4294967296)) + x18_2), shr .u64 (IntKind.u64.wrap ((IntKind.u64.wrap ((IntKind.u64.wrap ((IntKind.u64.wrap ((IntKind.u64.wrap ((IntKind.u64.wrap ((Go.bits .or .u64 (ji12) (ji15)) * 4294967296)) + ((ji17) / 4294967296))) - (IntKind.u64.wrap (x15_18 * ji10)))) * 4294967296)) + (Go.bits .and .u64 (ji17) 4294967295))) - (IntKind.u64.wrap (x18_2 * ji10)))) ji8)) else (none)) = some (r1, r2) := by rw [if_neg (show ¬ (false = true) by decide)] at H; exact H
         clear H
         have H := H1
         clear H1
         by_cases c31 : 0 ≤ ji8
         ·rw [if_pos c31] at H
          have c31b0 := eq_true c31
          have c31b1 : decide (0 ≤ ji8) = true := decide_eq_true c31
          clear c31
          obtain ⟨ji32, hji32⟩ : ∃ j_ : Int, (shr .u64 (IntKind.u64.wrap ((IntKind.u64.wrap ((IntKind.u64.wrap ((IntKind.u64.wrap ((IntKind.u64.wrap ((IntKind.u64.wrap ((Go.bits .or .u64 (ji12) (ji15)) * 4294967296)) + ((ji17) / 4294967296))) - (IntKind.u64.wrap (x15_18 * ji10)))) * 4294967296)) + (Go.bits .and .u64 (ji17) 4294967295))) - (IntKind.u64.wrap (x18_2 * ji10)))) ji8) = j_ := ⟨_, rfl⟩
          replace H : (some (IntKind.u64.wrap ((IntKind.u64.wrap (x15_18 * 4294967296)) + x18_2), ji32)) = some (r1, r2) := by first | (rw [hji32] at H; exact H) | (simp only [hji32] at H ⊢; exact H)
          have hji32_ : ((IntKind.u64.wrap ((IntKind.u64.wrap ((IntKind.u64.wrap ((IntKind.u64.wrap ((IntKind.u64.wrap ((IntKind.u64.wrap ((Go.bits .or .u64 (ji12) (ji15)) * 4294967296)) + ((ji17) / 4294967296))) - (IntKind.u64.wrap (x15_18 * ji10)))) * 4294967296)) + (Go.bits .and .u64 (ji17) 4294967295))) - (IntKind.u64.wrap (x18_2 * ji10)))) / 2 ^ min ji8.toNat 64) = ji32 := hji32
          have hji32z : ji8 ≤ 64 → ((IntKind.u64.wrap ((IntKind.u64.wrap ((IntKind.u64.wrap ((IntKind.u64.wrap ((IntKind.u64.wrap ((IntKind.u64.wrap ((Go.bits .or .u64 (ji12) (ji15)) * 4294967296)) + ((ji17) / 4294967296))) - (IntKind.u64.wrap (x15_18 * ji10)))) * 4294967296)) + (Go.bits .and .u64 (ji17) 4294967295))) - (IntKind.u64.wrap (x18_2 * ji10)))) / 2 ^ ji8.toNat) = ji32 := shr_small hji32
          simp only [Option.some.injEq, Prod.mk.injEq] at H
          obtain ⟨rfl, rfl⟩ := H
          go_wp2
          repeat (go_quiet (fail); try go_wp2)
          go_ret2
          exact ⟨by first | rfl | (simp; done) | (simp only [← hji8, ← hji10, ← hji12, ← hji13, ← hji15, ← hji17, ← hji32] <;> (first | rfl | simp)) | (simp [*]; done), by repeat (first | exact Drawn0.refl _ | apply Drawn0.step)⟩
         rw [if_neg c31] at H
         exact absurd H (by simp)
  rw [if_neg c14] at H
  exact absurd H (by simp)
 rw [if_neg c9] at H
 exact absurd H (by simp)
end Go.Proofs.YtodhkpdcpneeeaaDoor.PDv
namespace Go.Proofs.YtodhkpdcpneeeaaDoor.PDv
open Go.RowKit Go.Proofs.YtodhkpdcpneeeaaDoorW.PrintWords Go.Proofs.YtodhkpdcpneeeaaDoorW.PrintLast Go.Proofs.YtodhkpdcpneeeaaDoorW.PrintMore
open Go.Proofs.YtodhkpdcpneeeaaDoor.Mine
attribute [local go_sem] max2_int min2_int max_two min_two max_three min_three max_four min_four
def whole_amount_byLimb.l0 : Nat → List Int → Int → List Int → Int → Int → Option (List Int × Int)
 | 0, _, _, _, _, _ => none
 | k + 1, x0, x1, x6, x7, x8 => if x8 ≥ 0 then (if 0 ≤ x8 then (if x8 < (x0.length : Int) then ((bits_Div64.f k x7 (rd x0 x8) x1).bind fun bt125 => (if x8 < (x6.length : Int) then (whole_amount_byLimb.l0 k x0 x1 (x6.set (x8 : Int).toNat bt125.1) bt125.2 (wrap64 (x8 - 1))) else (none))) else (none)) else (none)) else ((whole_trimmed.f k x6).bind fun t128 => (some (t128, x7)))
def whole_amount_byLimb.f (k : Nat) (l0 : List Int) (a1 : Int) : Option (List Int × Int) := if 0 ≤ (l0.length : Int) then (if ((l0.length : Int) : Int).toNat ≤ 35184372088832 then (whole_amount_byLimb.l0 k l0 a1 (List.replicate ((l0.length : Int) : Int).toNat 0) 0 (wrap64 ((l0.length : Int) - 1))) else (none)) else (none)
theorem whole_amount_byLimb.mono_l : ∀ k, (∀ y0 y1 y2 y3 y4, LeO (whole_amount_byLimb.l0 k y0 y1 y2 y3 y4) (whole_amount_byLimb.l0 (k + 1) y0 y1 y2 y3 y4))
 | 0 => fun _ _ _ _ _ r h => by simp [whole_amount_byLimb.l0] at h
 | k + 1 => by
  have ih0 := whole_amount_byLimb.mono_l k
  intro y0 y1 y2 y3 y4
  unfold whole_amount_byLimb.l0
  repeat' first
  | (with_reducible exact ih0 _ _ _ _ _)
  | (with_reducible exact bits_Div64.mono _ _ _ _)
  | (with_reducible exact whole_trimmed.mono _ _)
  | (with_reducible exact LeO.refl _)
  | (with_reducible exact LeO.none _)
  | (with_reducible refine LeO.ite ?_ ?_)
  | (with_reducible refine LeO.bind ?_ (fun _ => ?_))
  | exact ih0 _ _ _ _ _
  | exact bits_Div64.mono _ _ _ _
  | exact whole_trimmed.mono _ _
  | exact LeO.none _
  | refine LeO.ite ?_ ?_
  | refine LeO.bind ?_ (fun _ => ?_)
theorem whole_amount_byLimb.mono : ∀ a0 a1 k, LeO (whole_amount_byLimb.f k a0 a1) (whole_amount_byLimb.f (k + 1) a0 a1) := by
 intro a0 a1 k
 have ih0 := whole_amount_byLimb.mono_l k
 unfold whole_amount_byLimb.f
 repeat' first
   | (with_reducible exact ih0 _ _ _ _ _)
   | (with_reducible exact bits_Div64.mono _ _ _ _)
   | (with_reducible exact whole_trimmed.mono _ _)
   | (with_reducible exact LeO.refl _)
   | (with_reducible exact LeO.none _)
   | (with_reducible refine LeO.ite ?_ ?_)
   | (with_reducible refine LeO.bind ?_ (fun _ => ?_))
   | exact ih0 _ _ _ _ _
   | exact bits_Div64.mono _ _ _ _
   | exact whole_trimmed.mono _ _
   | exact LeO.none _
   | refine LeO.ite ?_ ?_
   | refine LeO.bind ?_ (fun _ => ?_)
theorem whole_amount_byLimb.calls (k : Nat) (A0 : Option Addr) (c0 : Nat) (l0 : List Int) (a1 : Int) (r1 : List Int) (r2 : Int) (w : World) (hr0 : Kd.C (Kd.int .u64) w A0 l0.length l0) (hc0 : l0.length ≤ c0) (h : whole_amount_byLimb.f k l0 a1 = some (r1, r2)) :
  Calls Tryd.prog 68 #[.slice A0 l0.length c0, .int .u64 a1] w fun e w' => ∃ v0_ : Value, e = .returned (.tuple #[v0_, .int .u64 r2]) ∧ Kd.V (Kd.int .u64) 59 w' w.heap.size (fun k_ => (w.heap.size ≤ k_)) v0_ r1 ∧ Below w.heap.size w w' := by
 have HR0 := Aside0.mk hr0
 have HC0 := Aside0.mk hc0
 clear hr0 hc0
 have HB := Aside0.mk (Below.refl w.heap.size w)
 have H : (if 0 ≤ (l0.length : Int) then (if ((l0.length : Int) : Int).toNat ≤ 35184372088832 then (whole_amount_byLimb.l0 k l0 a1 (List.replicate ((l0.length : Int) : Int).toNat 0) 0 (wrap64 ((l0.length : Int) - 1))) else (none)) else (none)) = some (r1, r2) := h
 clear h
 by_cases c3 : 0 ≤ (l0.length : Int)
 ·rw [if_pos c3] at H
  have c3b0 := eq_true c3
  have c3b1 : decide (0 ≤ (l0.length : Int)) = true := decide_eq_true c3
  clear c3
  by_cases c4 : ((l0.length : Int) : Int).toNat ≤ 35184372088832
  ·rw [if_pos c4] at H
   have c4b0 := eq_true c4
   have c4b1 : decide (((l0.length : Int) : Int).toNat ≤ 35184372088832) = true := decide_eq_true c4
   clear c4
   obtain ⟨y121, hy121⟩ : ∃ y_ : List Int, y_ = (List.replicate ((l0.length : Int) : Int).toNat 0) := ⟨_, rfl⟩
   replace H : (whole_amount_byLimb.l0 k l0 a1 y121 0 (wrap64 ((l0.length : Int) - 1))) = some (r1, r2) := by first | (rw [hy121]; with_reducible exact H) | (have H2_ := (Option.bind_some _ _).symm.trans H; rw [hy121]; with_reducible exact H2_) | (have H2_ := (Option.bind_some _ _).symm.trans H; with_reducible exact H2_) | with_reducible exact H | (rw [hy121]; exact H) | exact H
   have Ny121 := Aside0.mk hy121
   clear hy121
   have H' := Aside0.mk H
   clear H
   go_enter Tryd.func68, Tryd.ntmps68
   go_wp2_with (first | (refine gd 11 rfl ?_; refine Kd.R_make (Kd.int .u64) _ 59 rfl (N := 11) rfl 22 _ _ rfl (l0.length : Int) rfl rfl Tryd.underlying22 (.int .u64 0) 8 info59 rfl (by decide) (by omega) 0 (ok := fun _ => True) (okp := fun _ => True) rfl (fun _ hk => hk) trivial (of_decide_eq_true ‹_›) (Nat.le_trans (Nat.mul_le_mul_right _ (of_decide_eq_true ‹_› : (l0.length : Int).toNat ≤ 35184372088832)) (by omega)) (Below.refl _ _) (Nat.le_refl _) ?_; intro v122 w5 ho6 hb hg_ hnew_; clear hg_ hnew_; (first | rw [← Ny121.out] at ho6 | (simp only [Int.reduceToNat] at ho6; rw [← Ny121.out] at ho6)); have HO123 := Aside0.mk (Kd.R_lower (Kd.R_newM (M := fun k_ => (w.heap.size ≤ k_)) ho6 (below_size (khu HB.out)) (fun k_ h_ => h_)) (below_size (khu HB.out))); replace HB := kbs HB hb; clear hb ho6))
   go_loopg [7, 8] k (fun kq v7 v8 w' => ∃ (x6_1 : List Int) (x7_1 : Int) (x8_1 : Int), v7 = .int .u64 x7_1 ∧ v8 = .int .i64 x8_1 ∧ Aside0 (whole_amount_byLimb.l0 kq l0 a1 x6_1 x7_1 x8_1 = some (r1, r2)) ∧ Aside0 (kq ≤ k) ∧ Aside0 (Kd.R (Kd.int .u64) 59 w' w.heap.size (fun k_ => (w.heap.size ≤ k_)) v122 x6_1) ∧ Aside0 (Below w.heap.size w w'))
   case atStart => exact ⟨(y121), (0), (wrap64 ((l0.length : Int) - 1)), (by first | rfl | (simp; done) | (simp [*]; done)), (by first | rfl | (simp; done) | (simp [*]; done)), H', ⟨Nat.le_refl _⟩, ⟨by (with_reducible repeat (first | apply Kd.R_alloc | apply Kd.R_drewN | apply Kd.R_drew)); exact Kd.R_mono HO123.out (fun _ hk => hk.1)⟩, ⟨khu HB.out⟩⟩
   case round =>
    clear H'
    try clear p2
    try clear c3
    try clear c3b0
    try clear c3b1
    try clear c4
    try clear c4b0
    try clear c4b1
    try clear c6
    try clear p6
    obtain ⟨x6_1, x7_1, x8_1, rfl, rfl, HA, HK1, HO_6, HB⟩ := hrel
    cases gk with
    | zero => exact absurd HA.out (by simp [whole_amount_byLimb.l0])
    | succ k1 =>
     have H := HA.out
     clear HA
     simp only [whole_amount_byLimb.l0] at H
     by_cases c7 : x8_1 ≥ 0
     ·rw [if_pos c7] at H
      have c7b0 : decide (0 ≤ x8_1) = true := decide_eq_true c7
      clear c7
      by_cases c8 : 0 ≤ x8_1
      ·rw [if_pos c8] at H
       have c8b0 : decide (0 ≤ x8_1) = true := decide_eq_true c8
       clear c8
       by_cases c9 : x8_1 < (l0.length : Int)
       ·rw [if_pos c9] at H
        have c9b0 : decide (x8_1 < (l0.length : Int)) = true := decide_eq_true c9
        clear c9
        replace H := Option.bind_eq_some_iff.mp H
        obtain ⟨⟨t125, t126⟩, A100, H⟩ := H
        replace H : (if x8_1 < (x6_1.length : Int) then (whole_amount_byLimb.l0 k1 l0 a1 (x6_1.set (x8_1 : Int).toNat t125) t126 (wrap64 (x8_1 - 1))) else (none)) = some (r1, r2) := H
        have A10 := Aside0.mk A100
        clear A100
        by_cases c11 : x8_1 < (x6_1.length : Int)
        ·rw [if_pos c11] at H
         have c11b0 : decide (x8_1 < (x6_1.length : Int)) = true := decide_eq_true c11
         clear c11
         obtain ⟨y127, hy127⟩ : ∃ y_ : List Int, y_ = (x6_1.set (x8_1 : Int).toNat t125) := ⟨_, rfl⟩
         replace H : (whole_amount_byLimb.l0 k1 l0 a1 y127 t126 (wrap64 (x8_1 - 1))) = some (r1, r2) := by first | (rw [hy127]; with_reducible exact H) | (have H2_ := (Option.bind_some _ _).symm.trans H; rw [hy127]; with_reducible exact H2_) | (have H2_ := (Option.bind_some _ _).symm.trans H; with_reducible exact H2_) | with_reducible exact H | (rw [hy127]; exact H) | exact H
         have Ny127 := Aside0.mk hy127
         clear hy127
         have H' := Aside0.mk H
         clear H
         have p124 : 0 ≤ (x8_1 : Int) := of_decide_eq_true ‹_›
         have q124 : x8_1 < (l0.length : Int) := of_decide_eq_true ‹_›
         obtain ⟨ad124, e124, hx124_0⟩ := Kd.at_int HR0.out x8_1 p124 q124
         cases e124
         replace hx124_0 := (HB.out.cell (World.block_lt_of_cell? w _ hx124_0)).trans hx124_0
         replace p124 := eq_true p124
         replace q124 := eq_true q124
         go_wp2_with (first | ((with_reducible refine gate_callee (f := 97) rfl ?_); refine kgl (some 28) rfl rfl Tryd.func97 #[.int .u64 x7_1, .int .u64 (rd l0 x8_1), .int .u64 a1] rfl ?_; (with_reducible refine (bits_Div64.calls k1 x7_1 (rd l0 x8_1) a1 t125 t126 _ A10.out).mono ?_); rintro e w' ⟨rfl, ⟨nd, rfl⟩⟩; refine ⟨_, rfl, ?_⟩; (try (rw [drewN_self wr]; generalize hq_ : World.drewN wr _ = wr; have n0_ : Aside0 (Kd.R (Kd.int .u64) 59 wr w.heap.size (fun k_ => (w.heap.size ≤ k_)) v122 x6_1) := ⟨by rw [← hq_]; exact (kru HO_6.out)⟩; have n1_ : Aside0 (Below w.heap.size w wr) := ⟨by rw [← hq_]; exact (khu HB.out)⟩; clear HO_6 HB hq_; have HO_6 := n0_; have HB := n1_; clear n0_ n1_)); have p12 : 0 ≤ (x8_1 : Int) := of_decide_eq_true ‹_›; have q12 : (x8_1 : Int) < ((x6_1.length : Int) : Int) := of_decide_eq_true ‹_›; obtain ⟨go12, co12, eo12, gb12, gl12, cl12, HG12⟩ := Kd.R_form HO_6.out (by omega); (first | cases eo12 | (injection eo12 with ea_ en_ ec_; (first | subst ea_ | (injection ea_ with ea_; subst ea_)); subst ec_; clear en_)); have GB12 := Aside0.mk gb12; have GG12 := Aside0.mk HG12; clear gb12 gl12 HG12; obtain ⟨hx12_0, hf12_0⟩ := Kd.R_celln 0 HO_6.out (x8_1 : Int) p12 q12; replace p12 := eq_true p12; replace q12 := eq_true q12; obtain ⟨hy13_, hz13_⟩ := Kd.R_celln 0 HO_6.out (x8_1 : Int) (of_decide_eq_true ‹_›) (of_decide_eq_true ‹_›); have HP13 := Kd.R_putg HO_6.out (x8_1 : Int) t125) | ((with_reducible refine gate_store (t := 59) (p := 31) rfl ?_); refine store_event (t := 59) (p := 31) (v := ?vo_w14) (w1 := (wr.setCell ⟨go12, (x8_1 : Int).toNat, none⟩ (.int .u64 t125))) ?hg ?ho ?hn ?hr ?_; (case ho => rfl); (case hg => rfl); (case hn => rfl); (case hr => first | (go_simp; done) | (go_simp; rfl)); intro w14 hw; have hg : wr.grownBy w14 (some go12) := (by rw [hw]; exact HP13.2); have hp_ : Kd.R (Kd.int .u64) 59 w14 w.heap.size (fun k_ => (w.heap.size ≤ k_)) (.slice (some ⟨go12, 0, none⟩) x6_1.length co12) y127 := (by rw [hw, Ny127.out]; exact HP13.1); clear HP13; replace HO_6 := Aside0.mk (hp_); replace HB := Aside0.mk ((by rw [hw]; exact below_set (HB.out) GB12.out : Below w.heap.size w w14)); clear hg hw hp_))
         go_roundg k1
         case measure => have := HK1.out; omega
         case rel => exact ⟨(y127), (t126), (wrap64 (x8_1 - 1)), (by first | rfl | (simp; done) | (simp [*]; done)), (by first | rfl | (simp; done) | (simp [*]; done)), H', ⟨by have := HK1.out; omega⟩, ⟨kru HO_6.out⟩, ⟨khu HB.out⟩⟩
        rw [if_neg c11] at H
        exact absurd H (by simp)
       rw [if_neg c9] at H
       exact absurd H (by simp)
      rw [if_neg c8] at H
      exact absurd H (by simp)
     rw [if_neg c7] at H
     have c7b0 : decide (0 ≤ x8_1) = false := decide_eq_false c7
     clear c7
     replace H := Option.bind_eq_some_iff.mp H
     obtain ⟨t128, A150, H⟩ := H
     replace H : (some (t128, x7_1)) = some (r1, r2) := H
     have A15 := Aside0.mk A150
     clear A150
     simp only [Option.some.injEq, Prod.mk.injEq] at H
     obtain ⟨rfl, rfl⟩ := H
     obtain ⟨Ao16, co16, eo16⟩ := Kd.R_slice HO_6.out
     subst eo16
     go_wp2_with (first | ((with_reducible refine gate_callee (f := 83) rfl ?_); refine kgl (some 33) rfl rfl Tryd.func83 #[.slice Ao16 x6_1.length co16] rfl ?_; (with_reducible refine (whole_trimmed.calls k1 (fun k_ => some k_ = (.slice Ao16 x6_1.length co16 : Value).ownBlock) _ _ x6_1 t128 _ ?side1 A15.out).mono ?_); (case side1 => exact Kd.R_V (Kd.R_tight rfl (HO_6.out))); rintro e w17 ⟨v129, rfl, ho0, hb⟩; refine ⟨_, rfl, ?_⟩; have HO130 := Aside0.mk (Kd.V_lower (Kd.V_mono (ok' := fun k_ => (w.heap.size ≤ k_)) ho0 (fun k_ hk_ => Or.elim hk_ (fun hs_ => ((HO_6.out).1 k_ hs_.symm)) (fun hn_ => (Nat.le_trans (below_size (khu HB.out)) hn_)))) (below_size (khu HB.out))); replace HO_6 := krb HO_6 hb; replace HB := kbs HB hb; (try clear hb); (try clear hb2); (try clear hk); (try clear hi); (try clear ho0)))
     go_ret2
     exact ⟨_, by first | rfl | (simp [*, errW_none, errW_some] <;> rfl), kvu HO130.out, khu HB.out⟩
  rw [if_neg c4] at H
  exact absurd H (by simp)
 rw [if_neg c3] at H
 exact absurd H (by simp)
def whole_amount_cmp.l0 : Nat → List Int → List Int → Int → Option (Int)
 | 0, _, _, _ => none
 | k + 1, x0, x1, x5 => if x5 ≥ 0 then (if 0 ≤ x5 then (if x5 < (x0.length : Int) then (if x5 < (x1.length : Int) then (if (rd x0 x5) = (rd x1 x5) then (whole_amount_cmp.l0 k x0 x1 (wrap64 (x5 - 1))) else (if (rd x0 x5) < (rd x1 x5) then (some (-1)) else (some 1))) else (none)) else (none)) else (none)) else (some 0)
def whole_amount_cmp.f (k : Nat) (l0 : List Int) (l1 : List Int) : Option (Int) := if (l0.length : Int) = (l1.length : Int) then (whole_amount_cmp.l0 k l0 l1 (wrap64 ((l0.length : Int) - 1))) else (if (l0.length : Int) < (l1.length : Int) then (some (-1)) else (some 1))
theorem whole_amount_cmp.mono_l : ∀ k, (∀ y0 y1 y2, LeO (whole_amount_cmp.l0 k y0 y1 y2) (whole_amount_cmp.l0 (k + 1) y0 y1 y2))
 | 0 => fun _ _ _ r h => by simp [whole_amount_cmp.l0] at h
 | k + 1 => by
  have ih0 := whole_amount_cmp.mono_l k
  intro y0 y1 y2
  unfold whole_amount_cmp.l0
  repeat' first
  | (with_reducible exact ih0 _ _ _)
  | (with_reducible exact LeO.refl _)
  | (with_reducible exact LeO.none _)
  | (with_reducible refine LeO.ite ?_ ?_)
  | (with_reducible refine LeO.bind ?_ (fun _ => ?_))
  | exact ih0 _ _ _
  | exact LeO.none _
  | refine LeO.ite ?_ ?_
  | refine LeO.bind ?_ (fun _ => ?_)
theorem whole_amount_cmp.mono : ∀ a0 a1 k, LeO (whole_amount_cmp.f k a0 a1) (whole_amount_cmp.f (k + 1) a0 a1) := by
 intro a0 a1 k
 have ih0 := whole_amount_cmp.mono_l k
 unfold whole_amount_cmp.f
 repeat' first
   | (with_reducible exact ih0 _ _ _)
   | (with_reducible exact LeO.refl _)
   | (with_reducible exact LeO.none _)
   | (with_reducible refine LeO.ite ?_ ?_)
   | (with_reducible refine LeO.bind ?_ (fun _ => ?_))
   | exact ih0 _ _ _
   | exact LeO.none _
   | refine LeO.ite ?_ ?_
   | refine LeO.bind ?_ (fun _ => ?_)
theorem whole_amount_cmp.calls (k : Nat) (A0 : Option Addr) (c0 : Nat) (l0 : List Int) (A1 : Option Addr) (c1 : Nat) (l1 : List Int) (r : Int) (w : World) (hr0 : Kd.C (Kd.int .u64) w A0 l0.length l0) (hc0 : l0.length ≤ c0) (hr1 : Kd.C (Kd.int .u64) w A1 l1.length l1) (hc1 : l1.length ≤ c1) (h : whole_amount_cmp.f k l0 l1 = some r) :
  Calls Tryd.prog 95 #[.slice A0 l0.length c0, .slice A1 l1.length c1] w fun e w' => e = .returned (.int .i64 r) ∧ Drawn0 w w' := by
 have HR0 := Aside0.mk hr0
 have HC0 := Aside0.mk hc0
 clear hr0 hc0
 have HR1 := Aside0.mk hr1
 have HC1 := Aside0.mk hc1
 clear hr1 hc1
 have H : (if (l0.length : Int) = (l1.length : Int) then (whole_amount_cmp.l0 k l0 l1 (wrap64 ((l0.length : Int) - 1))) else (if (l0.length : Int) < (l1.length : Int) then (some (-1)) else (some 1))) = some r := h
 clear h
 by_cases c3 : (l0.length : Int) = (l1.length : Int)
 ·rw [if_pos c3] at H
  have c3b0 : ((l0.length : Int) == (l1.length : Int)) = true := beq_iff_eq.mpr c3
  have c3b1 : ((l0.length : Int) != (l1.length : Int)) = false := bne_eq_false_iff_eq.mpr c3
  have c3b2 : (l0.length == l1.length) = true := by first | simpa using c3 | (simp at c3 ⊢; omega)
  clear c3
  have H' := Aside0.mk H
  clear H
  go_enter Tryd.func95, Tryd.ntmps95
  go_wp2
  repeat (go_quiet (fail); try go_wp2)
  go_loopg [5] k (fun kq v5 w' => ∃ (x5_1 : Int), v5 = .int .i64 x5_1 ∧ Aside0 (whole_amount_cmp.l0 kq l0 l1 x5_1 = some r) ∧ Aside0 (kq ≤ k) ∧ Drawn0 w w')
  case atStart => exact ⟨(wrap64 ((l0.length : Int) - 1)), (by first | rfl | (simp; done) | (simp [*]; done)), H', ⟨Nat.le_refl _⟩, by repeat (first | exact Drawn0.refl _ | apply Drawn0.step)⟩
  case round =>
   clear H'
   try clear c1
   try clear p2
   try clear c3
   try clear c3b0
   try clear c3b1
   try clear c3b2
   obtain ⟨x5_1, rfl, HA, HK1, ⟨m1, rfl⟩⟩ := hrel
   cases gk with
   | zero => exact absurd HA.out (by simp [whole_amount_cmp.l0])
   | succ k1 =>
    have H := HA.out
    clear HA
    simp only [whole_amount_cmp.l0] at H
    by_cases c4 : x5_1 ≥ 0
    ·rw [if_pos c4] at H
     have c4b0 : decide (0 ≤ x5_1) = true := decide_eq_true c4
     clear c4
     by_cases c5 : 0 ≤ x5_1
     ·rw [if_pos c5] at H
      have c5b0 : decide (0 ≤ x5_1) = true := decide_eq_true c5
      clear c5
      by_cases c6 : x5_1 < (l0.length : Int)
      ·rw [if_pos c6] at H
       have c6b0 : decide (x5_1 < (l0.length : Int)) = true := decide_eq_true c6
       clear c6
       by_cases c7 : x5_1 < (l1.length : Int)
       ·rw [if_pos c7] at H
        have c7b0 : decide (x5_1 < (l1.length : Int)) = true := decide_eq_true c7
        clear c7
        by_cases c8 : (rd l0 x5_1) = (rd l1 x5_1)
        ·rw [if_pos c8] at H
         have c8b0 : ((rd l0 x5_1) == (rd l1 x5_1)) = true := beq_iff_eq.mpr c8
         have c8b1 : ((rd l0 x5_1) != (rd l1 x5_1)) = false := bne_eq_false_iff_eq.mpr c8
         clear c8
         have H' := Aside0.mk H
         clear H
         have p131 : 0 ≤ (x5_1 : Int) := of_decide_eq_true ‹_›
         have q131 : x5_1 < (l0.length : Int) := of_decide_eq_true ‹_›
         obtain ⟨ad131, e131, hx131_0⟩ := Kd.at_int HR0.out x5_1 p131 q131
         cases e131
         replace p131 := eq_true p131
         replace q131 := eq_true q131
         have p132 : 0 ≤ (x5_1 : Int) := of_decide_eq_true ‹_›
         have q132 : x5_1 < (l1.length : Int) := of_decide_eq_true ‹_›
         obtain ⟨ad132, e132, hx132_0⟩ := Kd.at_int HR1.out x5_1 p132 q132
         cases e132
         replace p132 := eq_true p132
         replace q132 := eq_true q132
         go_wp2
         repeat (go_quiet (fail); try go_wp2)
         go_roundg k1
         case measure => have := HK1.out; omega
         case rel => exact ⟨(wrap64 (x5_1 - 1)), (by first | rfl | (simp; done) | (simp [*]; done)), H', ⟨by have := HK1.out; omega⟩, by repeat (first | exact Drawn0.refl _ | apply Drawn0.step)⟩
        rw [if_neg c8] at H
        have c8b0 : ((rd l0 x5_1) == (rd l1 x5_1)) = false := beq_eq_false_iff_ne.mpr c8
        have c8b1 : ((rd l0 x5_1) != (rd l1 x5_1)) = true := bne_iff_ne.mpr c8
        by_cases c9 : (rd l0 x5_1) < (rd l1 x5_1)
        ·rw [if_pos c9] at H
         have c9b0 : decide ((rd l0 x5_1) < (rd l1 x5_1)) = true := decide_eq_true c9
         clear c9
         obtain rfl := Option.some.inj H
         have p131 : 0 ≤ (x5_1 : Int) := of_decide_eq_true ‹_›
         have q131 : x5_1 < (l0.length : Int) := of_decide_eq_true ‹_›
         obtain ⟨ad131, e131, hx131_0⟩ := Kd.at_int HR0.out x5_1 p131 q131
         cases e131
         replace p131 := eq_true p131
         replace q131 := eq_true q131
         have p132 : 0 ≤ (x5_1 : Int) := of_decide_eq_true ‹_›
         have q132 : x5_1 < (l1.length : Int) := of_decide_eq_true ‹_›
         obtain ⟨ad132, e132, hx132_0⟩ := Kd.at_int HR1.out x5_1 p132 q132
         cases e132
         replace p132 := eq_true p132
         replace q132 := eq_true q132
         have p133 : 0 ≤ (x5_1 : Int) := of_decide_eq_true ‹_›
         have q133 : x5_1 < (l0.length : Int) := of_decide_eq_true ‹_›
         obtain ⟨ad133, e133, hx133_0⟩ := Kd.at_int HR0.out x5_1 p133 q133
         obtain rfl : ad131 = ad133 := (by injection e133)
         replace p133 := eq_true p133
         replace q133 := eq_true q133
         have p134 : 0 ≤ (x5_1 : Int) := of_decide_eq_true ‹_›
         have q134 : x5_1 < (l1.length : Int) := of_decide_eq_true ‹_›
         obtain ⟨ad134, e134, hx134_0⟩ := Kd.at_int HR1.out x5_1 p134 q134
         obtain rfl : ad132 = ad134 := (by injection e134)
         replace p134 := eq_true p134
         replace q134 := eq_true q134
         go_wp2
         repeat (go_quiet (fail); try go_wp2)
         go_ret
         exact ⟨by first | rfl | (simp; done) | (simp [*]; done), by repeat (first | exact Drawn0.refl _ | apply Drawn0.step)⟩
        rw [if_neg c9] at H
        have c9b0 : decide ((rd l0 x5_1) < (rd l1 x5_1)) = false := decide_eq_false c9
        clear c9
        obtain rfl := Option.some.inj H
        have p131 : 0 ≤ (x5_1 : Int) := of_decide_eq_true ‹_›
        have q131 : x5_1 < (l0.length : Int) := of_decide_eq_true ‹_›
        obtain ⟨ad131, e131, hx131_0⟩ := Kd.at_int HR0.out x5_1 p131 q131
        cases e131
        replace p131 := eq_true p131
        replace q131 := eq_true q131
        have p132 : 0 ≤ (x5_1 : Int) := of_decide_eq_true ‹_›
        have q132 : x5_1 < (l1.length : Int) := of_decide_eq_true ‹_›
        obtain ⟨ad132, e132, hx132_0⟩ := Kd.at_int HR1.out x5_1 p132 q132
        cases e132
        replace p132 := eq_true p132
        replace q132 := eq_true q132
        have p133 : 0 ≤ (x5_1 : Int) := of_decide_eq_true ‹_›
        have q133 : x5_1 < (l0.length : Int) := of_decide_eq_true ‹_›
        obtain ⟨ad133, e133, hx133_0⟩ := Kd.at_int HR0.out x5_1 p133 q133
        obtain rfl : ad131 = ad133 := (by injection e133)
        replace p133 := eq_true p133
        replace q133 := eq_true q133
        have p134 : 0 ≤ (x5_1 : Int) := of_decide_eq_true ‹_›
        have q134 : x5_1 < (l1.length : Int) := of_decide_eq_true ‹_›
        obtain ⟨ad134, e134, hx134_0⟩ := Kd.at_int HR1.out x5_1 p134 q134
        obtain rfl : ad132 = ad134 := (by injection e134)
        replace p134 := eq_true p134
        replace q134 := eq_true q134
        go_wp2
        repeat (go_quiet (fail); try go_wp2)
        go_ret
        exact ⟨by first | rfl | (simp; done) | (simp [*]; done), by repeat (first | exact Drawn0.refl _ | apply Drawn0.step)⟩
       rw [if_neg c7] at H
       exact absurd H (by simp)
      rw [if_neg c6] at H
      exact absurd H (by simp)
     rw [if_neg c5] at H
     exact absurd H (by simp)
    rw [if_neg c4] at H
    have c4b0 : decide (0 ≤ x5_1) = false := decide_eq_false c4
    clear c4
    obtain rfl := Option.some.inj H
    go_wp2
    repeat (go_quiet (fail); try go_wp2)
    go_ret
    exact ⟨by first | rfl | (simp; done) | (simp [*]; done), by repeat (first | exact Drawn0.refl _ | apply Drawn0.step)⟩
 rw [if_neg c3] at H
 have c3b0 : ((l0.length : Int) == (l1.length : Int)) = false := beq_eq_false_iff_ne.mpr c3
 have c3b1 : ((l0.length : Int) != (l1.length : Int)) = true := bne_iff_ne.mpr c3
 have c3b2 : (l0.length == l1.length) = false := by first | simpa using c3 | (simp at c3 ⊢; omega)
 by_cases c10 : (l0.length : Int) < (l1.length : Int)
 ·rw [if_pos c10] at H
  have c10b0 : decide ((l0.length : Int) < (l1.length : Int)) = true := decide_eq_true c10
  have c10b1 : decide (l0.length < l1.length) = true := decide_eq_true (Int.ofNat_lt.mp c10)
  clear c10
  obtain rfl := Option.some.inj H
  go_enter Tryd.func95, Tryd.ntmps95
  go_wp2
  repeat (go_quiet (fail); try go_wp2)
  go_ret
  exact ⟨by first | rfl | (simp; done) | (simp [*]; done), by repeat (first | exact Drawn0.refl _ | apply Drawn0.step)⟩
 rw [if_neg c10] at H
 have c10b0 : decide ((l0.length : Int) < (l1.length : Int)) = false := decide_eq_false c10
 have c10b1 : decide (l0.length < l1.length) = false := decide_eq_false (fun h => c10 (Int.ofNat_lt.mpr h))
 clear c10
 obtain rfl := Option.some.inj H
 go_enter Tryd.func95, Tryd.ntmps95
 go_wp2
 repeat (go_quiet (fail); try go_wp2)
 go_ret
 exact ⟨by first | rfl | (simp; done) | (simp [*]; done), by repeat (first | exact Drawn0.refl _ | apply Drawn0.step)⟩
def whole_amount_up.l0 : Nat → Int → List Int → List Int → Int → Int → Option (List Int)
 | 0, _, _, _, _, _ => none
 | k + 1, x1, x5, x12, x13, x14 => if x14 < x13 then (if 0 ≤ x14 then (if x14 < (x12.length : Int) then (if x14 < (x5.length : Int) then (if 0 ≤ x1 then ((some (x5.set (x14 : Int).toNat (Go.bits .or .u64 (rd x5 x14) (shl .u64 (rd x12 x14) x1)) : List Int)).bind fun y140 => (if x1 > 0 then (if 0 ≤ (IntKind.u64.wrap (64 - x1)) then (if 0 ≤ (wrap64 (x14 + 1)) then (if (wrap64 (x14 + 1)) < (x5.length : Int) then (whole_amount_up.l0 k x1 (y140.set ((wrap64 (x14 + 1)) : Int).toNat (shr .u64 (rd x12 x14) (IntKind.u64.wrap (64 - x1)))) x12 x13 (wrap64 (x14 + 1))) else (none)) else (none)) else (none)) else (whole_amount_up.l0 k x1 y140 x12 x13 (wrap64 (x14 + 1))))) else (none)) else (none)) else (none)) else (none)) else (some x5)
def whole_amount_up.f (k : Nat) (l0 : List Int) (a1 : Int) : Option (List Int) := if 0 ≤ (wrap64 ((l0.length : Int) + 1)) then (if (wrap64 ((l0.length : Int) + 1) : Int).toNat ≤ 35184372088832 then (whole_amount_up.l0 k a1 (List.replicate (wrap64 ((l0.length : Int) + 1) : Int).toNat 0) l0 (l0.length : Int) 0) else (none)) else (none)
theorem whole_amount_up.mono_l : ∀ k, (∀ y0 y1 y2 y3 y4, LeO (whole_amount_up.l0 k y0 y1 y2 y3 y4) (whole_amount_up.l0 (k + 1) y0 y1 y2 y3 y4))
 | 0 => fun _ _ _ _ _ r h => by simp [whole_amount_up.l0] at h
 | k + 1 => by
  have ih0 := whole_amount_up.mono_l k
  intro y0 y1 y2 y3 y4
  unfold whole_amount_up.l0
  repeat' first
  | (with_reducible exact ih0 _ _ _ _ _)
  | (with_reducible exact LeO.refl _)
  | (with_reducible exact LeO.none _)
  | (with_reducible refine LeO.ite ?_ ?_)
  | (with_reducible refine LeO.bind ?_ (fun _ => ?_))
  | exact ih0 _ _ _ _ _
  | exact LeO.none _
  | refine LeO.ite ?_ ?_
  | refine LeO.bind ?_ (fun _ => ?_)
theorem whole_amount_up.mono : ∀ a0 a1 k, LeO (whole_amount_up.f k a0 a1) (whole_amount_up.f (k + 1) a0 a1) := by
 intro a0 a1 k
 have ih0 := whole_amount_up.mono_l k
 unfold whole_amount_up.f
 repeat' first
   | (with_reducible exact ih0 _ _ _ _ _)
   | (with_reducible exact LeO.refl _)
   | (with_reducible exact LeO.none _)
   | (with_reducible refine LeO.ite ?_ ?_)
   | (with_reducible refine LeO.bind ?_ (fun _ => ?_))
   | exact ih0 _ _ _ _ _
   | exact LeO.none _
   | refine LeO.ite ?_ ?_
   | refine LeO.bind ?_ (fun _ => ?_)
theorem whole_amount_up.calls (k : Nat) (A0 : Option Addr) (c0 : Nat) (l0 : List Int) (a1 : Int) (r : List Int) (w : World) (hr0 : Kd.C (Kd.int .u64) w A0 l0.length l0) (hc0 : l0.length ≤ c0) (h : whole_amount_up.f k l0 a1 = some r) :
  Calls Tryd.prog 113 #[.slice A0 l0.length c0, .int .u64 a1] w fun e w' => ∃ v0_ : Value, e = .returned (v0_) ∧ Kd.R (Kd.int .u64) 59 w' w.heap.size (fun _ => True) v0_ r ∧ Below w.heap.size w w' := by
 have HR0 := Aside0.mk hr0
 have HC0 := Aside0.mk hc0
 clear hr0 hc0
 have HB := Aside0.mk (Below.refl w.heap.size w)
 have H : (if 0 ≤ (wrap64 ((l0.length : Int) + 1)) then (if (wrap64 ((l0.length : Int) + 1) : Int).toNat ≤ 35184372088832 then (whole_amount_up.l0 k a1 (List.replicate (wrap64 ((l0.length : Int) + 1) : Int).toNat 0) l0 (l0.length : Int) 0) else (none)) else (none)) = some r := h
 clear h
 obtain ⟨ji3, hji3⟩ : ∃ j_ : Int, (wrap64 ((l0.length : Int) + 1)) = j_ := ⟨_, rfl⟩
 replace H : (if 0 ≤ (ji3) then (if (ji3 : Int).toNat ≤ 35184372088832 then (whole_amount_up.l0 k a1 (List.replicate (ji3 : Int).toNat 0) l0 (l0.length : Int) 0) else (none)) else (none)) = some r := by first | (rw [hji3] at H; exact H) | (simp only [hji3] at H ⊢; exact H)
 have hji3w : (IntKind.i64.wrap ((l0.length : Int) + 1)) = ji3 := (i64_w _).trans hji3
 by_cases c4 : 0 ≤ (ji3)
 ·rw [if_pos c4] at H
  have c4b0 := eq_true c4
  have c4b1 : decide (0 ≤ (ji3)) = true := decide_eq_true c4
  clear c4
  by_cases c5 : (ji3 : Int).toNat ≤ 35184372088832
  ·rw [if_pos c5] at H
   have c5b0 := eq_true c5
   have c5b1 : decide ((ji3 : Int).toNat ≤ 35184372088832) = true := decide_eq_true c5
   clear c5
   obtain ⟨y135, hy135⟩ : ∃ y_ : List Int, y_ = (List.replicate (ji3 : Int).toNat 0) := ⟨_, rfl⟩
   replace H : (whole_amount_up.l0 k a1 y135 l0 (l0.length : Int) 0) = some r := by first | (rw [hy135]; with_reducible exact H) | (have H2_ := (Option.bind_some _ _).symm.trans H; rw [hy135]; with_reducible exact H2_) | (have H2_ := (Option.bind_some _ _).symm.trans H; with_reducible exact H2_) | with_reducible exact H | (rw [hy135]; exact H) | exact H
   have Ny135 := Aside0.mk hy135
   clear hy135
   have H' := Aside0.mk H
   clear H
   go_enter Tryd.func113, Tryd.ntmps113
   go_wp2_with (first | (refine gd 11 rfl ?_; refine Kd.R_make (Kd.int .u64) _ 59 rfl (N := 11) rfl 22 _ _ rfl ji3 rfl rfl Tryd.underlying22 (.int .u64 0) 8 info59 rfl (by decide) (by omega) 0 (ok := fun _ => True) (okp := fun _ => True) rfl (fun _ hk => hk) trivial (of_decide_eq_true ‹_›) (Nat.le_trans (Nat.mul_le_mul_right _ (of_decide_eq_true ‹_› : ji3.toNat ≤ 35184372088832)) (by omega)) (Below.refl _ _) (Nat.le_refl _) ?_; intro v136 w6 ho7 hb hg_ hnew_; clear hg_ hnew_; (first | rw [← Ny135.out] at ho7 | (simp only [Int.reduceToNat] at ho7; rw [← Ny135.out] at ho7)); have HO137 := Aside0.mk (Kd.R_lower ho7 (below_size (khu HB.out))); replace HB := kbs HB hb; clear hb ho7))
   go_loopg [14] k (fun kq v14 w' => ∃ (x5_1 : List Int) (x14_1 : Int), v14 = .int .i64 x14_1 ∧ Aside0 (whole_amount_up.l0 kq a1 x5_1 l0 (l0.length : Int) x14_1 = some r) ∧ Aside0 (kq ≤ k) ∧ Aside0 (Kd.R (Kd.int .u64) 59 w' w.heap.size (fun _ => True) v136 x5_1) ∧ Aside0 (Below w.heap.size w w'))
   case atStart => exact ⟨(y135), (0), (by first | rfl | (simp; done) | (simp [*]; done)), H', ⟨Nat.le_refl _⟩, ⟨kru HO137.out⟩, ⟨khu HB.out⟩⟩
   case round =>
    clear H'
    try clear c1
    try clear p2
    try clear c4
    try clear c4b0
    try clear c4b1
    try clear c5
    try clear c5b0
    try clear c5b1
    try clear p6
    obtain ⟨x5_1, x14_1, rfl, HA, HK1, HO_5, HB⟩ := hrel
    cases gk with
    | zero => exact absurd HA.out (by simp [whole_amount_up.l0])
    | succ k1 =>
     have H := HA.out
     clear HA
     simp only [whole_amount_up.l0] at H
     by_cases c8 : x14_1 < (l0.length : Int)
     ·rw [if_pos c8] at H
      have c8b0 : decide (x14_1 < (l0.length : Int)) = true := decide_eq_true c8
      clear c8
      by_cases c9 : 0 ≤ x14_1
      ·rw [if_pos c9] at H
       have c9b0 : decide (0 ≤ x14_1) = true := decide_eq_true c9
       clear c9
       by_cases c10 : x14_1 < (l0.length : Int)
       ·rw [if_pos c10] at H
        have c10b0 : decide (x14_1 < (l0.length : Int)) = true := decide_eq_true c10
        clear c10
        by_cases c11 : x14_1 < (x5_1.length : Int)
        ·rw [if_pos c11] at H
         have c11b0 : decide (x14_1 < (x5_1.length : Int)) = true := decide_eq_true c11
         clear c11
         by_cases c12 : 0 ≤ a1
         ·rw [if_pos c12] at H
          have c12b0 := eq_true c12
          have c12b1 : decide (0 ≤ a1) = true := decide_eq_true c12
          clear c12
          obtain ⟨ji13, hji13⟩ : ∃ j_ : Int, (shl .u64 (rd l0 x14_1) a1) = j_ := ⟨_, rfl⟩
          replace H : ((some (x5_1.set (x14_1 : Int).toNat (Go.bits .or .u64 (rd x5_1 x14_1) (ji13)) : List Int)).bind fun y140 => (if a1 > 0 then (if 0 ≤ (IntKind.u64.wrap (64 - a1)) then (if 0 ≤ (wrap64 (x14_1 + 1)) then (if (wrap64 (x14_1 + 1)) < (x5_1.length : Int) then (whole_amount_up.l0 k1 a1 (y140.set ((wrap64 (x14_1 + 1)) : Int).toNat (shr .u64 (rd l0 x14_1) (IntKind.u64.wrap (64 - a1)))) l0 (l0.length : Int) (wrap64 (x14_1 + 1))) else (none)) else (none)) else (none)) else (whole_amount_up.l0 k1 a1 y140 l0 (l0.length : Int) (wrap64 (x14_1 + 1))))) = some r := by first | (rw [hji13] at H; exact H) | (simp only [hji13] at H ⊢; exact H)
          have hji13_ : (IntKind.u64.wrap ((rd l0 x14_1) * 2 ^ min a1.toNat 64)) = ji13 := hji13
          have hji13z : a1 ≤ 64 → (IntKind.u64.wrap ((rd l0 x14_1) * 2 ^ a1.toNat)) = ji13 := shl_small hji13
          obtain ⟨y140, hy140⟩ : ∃ y_ : List Int, y_ = (x5_1.set (x14_1 : Int).toNat (Go.bits .or .u64 (rd x5_1 x14_1) (ji13))) := ⟨_, rfl⟩
          replace H : (if a1 > 0 then (if 0 ≤ (IntKind.u64.wrap (64 - a1)) then (if 0 ≤ (wrap64 (x14_1 + 1)) then (if (wrap64 (x14_1 + 1)) < (x5_1.length : Int) then (whole_amount_up.l0 k1 a1 (y140.set ((wrap64 (x14_1 + 1)) : Int).toNat (shr .u64 (rd l0 x14_1) (IntKind.u64.wrap (64 - a1)))) l0 (l0.length : Int) (wrap64 (x14_1 + 1))) else (none)) else (none)) else (none)) else (whole_amount_up.l0 k1 a1 y140 l0 (l0.length : Int) (wrap64 (x14_1 + 1)))) = some r := by first | (rw [hy140]; with_reducible exact H) | (have H2_ := (Option.bind_some _ _).symm.trans H; rw [hy140]; with_reducible exact H2_) | (have H2_ := (Option.bind_some _ _).symm.trans H; with_reducible exact H2_) | with_reducible exact H | (rw [hy140]; exact H) | exact H
          have Ny140 := Aside0.mk hy140
          clear hy140
          by_cases c15 : a1 > 0
          ·rw [if_pos c15] at H
           have c15b0 : decide (0 < a1) = true := decide_eq_true c15
           clear c15
           obtain ⟨ji16, hji16⟩ : ∃ j_ : Int, (IntKind.u64.wrap (64 - a1)) = j_ := ⟨_, rfl⟩
           replace H : (if 0 ≤ (ji16) then (if 0 ≤ (wrap64 (x14_1 + 1)) then (if (wrap64 (x14_1 + 1)) < (x5_1.length : Int) then (whole_amount_up.l0 k1 a1 (y140.set ((wrap64 (x14_1 + 1)) : Int).toNat (shr .u64 (rd l0 x14_1) (ji16))) l0 (l0.length : Int) (wrap64 (x14_1 + 1))) else (none)) else (none)) else (none)) = some r := by first | (rw [hji16] at H; exact H) | (simp only [hji16] at H ⊢; exact H)
           by_cases c17 : 0 ≤ (ji16)
           ·rw [if_pos c17] at H
            have c17b0 := eq_true c17
            have c17b1 : decide (0 ≤ (ji16)) = true := decide_eq_true c17
            clear c17
            obtain ⟨ji18, hji18⟩ : ∃ j_ : Int, (shr .u64 (rd l0 x14_1) (ji16)) = j_ := ⟨_, rfl⟩
            replace H : (if 0 ≤ (wrap64 (x14_1 + 1)) then (if (wrap64 (x14_1 + 1)) < (x5_1.length : Int) then (whole_amount_up.l0 k1 a1 (y140.set ((wrap64 (x14_1 + 1)) : Int).toNat (ji18)) l0 (l0.length : Int) (wrap64 (x14_1 + 1))) else (none)) else (none)) = some r := by first | (rw [hji18] at H; exact H) | (simp only [hji18] at H ⊢; exact H)
            have hji18_ : ((rd l0 x14_1) / 2 ^ min (ji16).toNat 64) = ji18 := hji18
            have hji18z : (ji16) ≤ 64 → ((rd l0 x14_1) / 2 ^ (ji16).toNat) = ji18 := shr_small hji18
            obtain ⟨ji19, hji19⟩ : ∃ j_ : Int, (wrap64 (x14_1 + 1)) = j_ := ⟨_, rfl⟩
            replace H : (if 0 ≤ (ji19) then (if (ji19) < (x5_1.length : Int) then (whole_amount_up.l0 k1 a1 (y140.set ((ji19) : Int).toNat (ji18)) l0 (l0.length : Int) ji19) else (none)) else (none)) = some r := by first | (rw [hji19] at H; exact H) | (simp only [hji19] at H ⊢; exact H)
            have hji19w : (IntKind.i64.wrap (x14_1 + 1)) = ji19 := (i64_w _).trans hji19
            by_cases c20 : 0 ≤ (ji19)
            ·rw [if_pos c20] at H
             have c20b0 : decide (0 ≤ (ji19)) = true := decide_eq_true c20
             clear c20
             by_cases c21 : (ji19) < (x5_1.length : Int)
             ·rw [if_pos c21] at H
              have c21b0 : decide ((ji19) < (x5_1.length : Int)) = true := decide_eq_true c21
              clear c21
              obtain ⟨y141, hy141⟩ : ∃ y_ : List Int, y_ = (y140.set ((ji19) : Int).toNat (ji18)) := ⟨_, rfl⟩
              replace H : (whole_amount_up.l0 k1 a1 y141 l0 (l0.length : Int) ji19) = some r := by first | (rw [hy141]; with_reducible exact H) | (have H2_ := (Option.bind_some _ _).symm.trans H; rw [hy141]; with_reducible exact H2_) | (have H2_ := (Option.bind_some _ _).symm.trans H; with_reducible exact H2_) | with_reducible exact H | (rw [hy141]; exact H) | exact H
              have Ny141 := Aside0.mk hy141
              clear hy141
              have H' := Aside0.mk H
              clear H
              have p138 : 0 ≤ (x14_1 : Int) := of_decide_eq_true ‹_›
              have q138 : x14_1 < (l0.length : Int) := of_decide_eq_true ‹_›
              obtain ⟨ad138, e138, hx138_0⟩ := Kd.at_int HR0.out x14_1 p138 q138
              cases e138
              replace hx138_0 := (HB.out.cell (World.block_lt_of_cell? w _ hx138_0)).trans hx138_0
              replace p138 := eq_true p138
              replace q138 := eq_true q138
              obtain ⟨Ao23, co23, eo23⟩ := Kd.R_slice HO_5.out
              subst eo23
              have p139 : 0 ≤ (x14_1 : Int) := of_decide_eq_true ‹_›
              have q139 : x14_1 < (x5_1.length : Int) := of_decide_eq_true ‹_›
              obtain ⟨ad139, e139, hx139_0⟩ := Kd.at_int (Kd.R_reads' HO_5.out).2.2 x14_1 p139 q139
              cases e139
              replace p139 := eq_true p139
              replace q139 := eq_true q139
              have p14 : 0 ≤ (x14_1 : Int) := of_decide_eq_true ‹_›
              have q14 : (x14_1 : Int) < ((x5_1.length : Int) : Int) := of_decide_eq_true ‹_›
              obtain ⟨go14, co14, eo14, gb14, gl14, cl14, HG14⟩ := Kd.R_form HO_5.out (by omega)
              (first | cases eo14 | (injection eo14 with ea_ en_ ec_; (first | subst ea_ | (injection ea_ with ea_; subst ea_)); subst ec_; clear en_))
              have GB14 := Aside0.mk gb14
              have GG14 := Aside0.mk HG14
              clear gb14 gl14 HG14
              (first | simp only [add_plain] at hx139_0 | skip)
              obtain ⟨hx14_0, hf14_0⟩ := Kd.R_celln 0 HO_5.out (x14_1 : Int) p14 q14
              replace p14 := eq_true p14
              replace q14 := eq_true q14
              have HP24 := Kd.R_putg HO_5.out (x14_1 : Int) (Go.bits .or .u64 (rd x5_1 x14_1) (ji13))
              go_wp2_with (first | ((with_reducible refine gate_store (t := 59) (p := 27) rfl ?_); refine store_event (t := 59) (p := 27) (v := ?vo_w25) (w1 := (wr.setCell ⟨go14, (x14_1 : Int).toNat, none⟩ (.int .u64 (Go.bits .or .u64 (rd x5_1 x14_1) (ji13))))) ?hg ?ho ?hn ?hr ?_; (case ho => rfl); (case hg => rfl); (case hn => rfl); (case hr => first | (go_simp; done) | (go_simp; rfl)); intro w25 hw; have hg : wr.grownBy w25 (some go14) := (by rw [hw]; exact HP24.2); have hp_ : Kd.R (Kd.int .u64) 59 w25 w.heap.size (fun _ => True) (.slice (some ⟨go14, 0, none⟩) x5_1.length co23) y140 := (by rw [hw, Ny140.out]; exact HP24.1); clear HP24; replace HO_5 := Aside0.mk (hp_); replace HB := Aside0.mk ((by rw [hw]; exact below_set (HB.out) GB14.out : Below w.heap.size w w25)); clear hg hw hp_; have p22 : 0 ≤ ((ji19) : Int) := of_decide_eq_true ‹_›; have q22 : ((ji19) : Int) < ((x5_1.length : Int) : Int) := of_decide_eq_true ‹_›; obtain ⟨hx22_0, hf22_0⟩ := Kd.R_celln 0 HO_5.out ((ji19) : Int) p22 q22; replace p22 := eq_true p22; replace q22 := eq_true q22; obtain ⟨hy26_, hz26_⟩ := Kd.R_celln 0 HO_5.out ((ji19) : Int) (of_decide_eq_true ‹_›) (of_decide_eq_true ‹_›); have HP26 := Kd.R_putg HO_5.out ((ji19) : Int) ji18) | ((with_reducible refine gate_store (t := 59) (p := 37) rfl ?_); refine store_event (t := 59) (p := 37) (v := ?vo_w27) (w1 := (w25.setCell ⟨go14, ((ji19) : Int).toNat, none⟩ (.int .u64 ji18))) ?hg ?ho ?hn ?hr ?_; (case ho => rfl); (case hg => rfl); (case hn => rfl); (case hr => first | (go_simp; done) | (go_simp; rfl)); intro w27 hw; have hg : w25.grownBy w27 (some go14) := (by rw [hw]; exact HP26.2); have hp_ : Kd.R (Kd.int .u64) 59 w27 w.heap.size (fun _ => True) (.slice (some ⟨go14, 0, none⟩) x5_1.length co23) y141 := (by rw [hw, Ny141.out]; exact HP26.1); clear HP26; replace HO_5 := Aside0.mk (hp_); replace HB := Aside0.mk ((by rw [hw]; exact below_set (HB.out) GB14.out : Below w.heap.size w w27)); clear hg hw hp_))
              go_roundg k1
              case measure => have := HK1.out; omega
              case rel => exact ⟨(y141), (ji19), (by first | rfl | (simp; done) | (simp only [← hji19] <;> (first | rfl | simp)) | (simp [*]; done)), H', ⟨by have := HK1.out; omega⟩, ⟨kru HO_5.out⟩, ⟨khu HB.out⟩⟩
             rw [if_neg c21] at H
             exact absurd H (by simp)
            rw [if_neg c20] at H
            exact absurd H (by simp)
           rw [if_neg c17] at H
           exact absurd H (by simp)
          rw [if_neg c15] at H
          have c15b0 : decide (0 < a1) = false := decide_eq_false c15
          clear c15
          have H' := Aside0.mk H
          clear H
          have p138 : 0 ≤ (x14_1 : Int) := of_decide_eq_true ‹_›
          have q138 : x14_1 < (l0.length : Int) := of_decide_eq_true ‹_›
          obtain ⟨ad138, e138, hx138_0⟩ := Kd.at_int HR0.out x14_1 p138 q138
          cases e138
          replace hx138_0 := (HB.out.cell (World.block_lt_of_cell? w _ hx138_0)).trans hx138_0
          replace p138 := eq_true p138
          replace q138 := eq_true q138
          obtain ⟨Ao28, co28, eo28⟩ := Kd.R_slice HO_5.out
          subst eo28
          have p139 : 0 ≤ (x14_1 : Int) := of_decide_eq_true ‹_›
          have q139 : x14_1 < (x5_1.length : Int) := of_decide_eq_true ‹_›
          obtain ⟨ad139, e139, hx139_0⟩ := Kd.at_int (Kd.R_reads' HO_5.out).2.2 x14_1 p139 q139
          cases e139
          replace p139 := eq_true p139
          replace q139 := eq_true q139
          have p14 : 0 ≤ (x14_1 : Int) := of_decide_eq_true ‹_›
          have q14 : (x14_1 : Int) < ((x5_1.length : Int) : Int) := of_decide_eq_true ‹_›
          obtain ⟨go14, co14, eo14, gb14, gl14, cl14, HG14⟩ := Kd.R_form HO_5.out (by omega)
          (first | cases eo14 | (injection eo14 with ea_ en_ ec_; (first | subst ea_ | (injection ea_ with ea_; subst ea_)); subst ec_; clear en_))
          have GB14 := Aside0.mk gb14
          have GG14 := Aside0.mk HG14
          clear gb14 gl14 HG14
          (first | simp only [add_plain] at hx139_0 | skip)
          obtain ⟨hx14_0, hf14_0⟩ := Kd.R_celln 0 HO_5.out (x14_1 : Int) p14 q14
          replace p14 := eq_true p14
          replace q14 := eq_true q14
          have HP29 := Kd.R_putg HO_5.out (x14_1 : Int) (Go.bits .or .u64 (rd x5_1 x14_1) (ji13))
          go_wp2_with (first | ((with_reducible refine gate_store (t := 59) (p := 27) rfl ?_); refine store_event (t := 59) (p := 27) (v := ?vo_w30) (w1 := (wr.setCell ⟨go14, (x14_1 : Int).toNat, none⟩ (.int .u64 (Go.bits .or .u64 (rd x5_1 x14_1) (ji13))))) ?hg ?ho ?hn ?hr ?_; (case ho => rfl); (case hg => rfl); (case hn => rfl); (case hr => first | (go_simp; done) | (go_simp; rfl)); intro w30 hw; have hg : wr.grownBy w30 (some go14) := (by rw [hw]; exact HP29.2); have hp_ : Kd.R (Kd.int .u64) 59 w30 w.heap.size (fun _ => True) (.slice (some ⟨go14, 0, none⟩) x5_1.length co28) y140 := (by rw [hw, Ny140.out]; exact HP29.1); clear HP29; replace HO_5 := Aside0.mk (hp_); replace HB := Aside0.mk ((by rw [hw]; exact below_set (HB.out) GB14.out : Below w.heap.size w w30)); clear hg hw hp_))
          go_roundg k1
          case measure => have := HK1.out; omega
          case rel => exact ⟨(y140), (wrap64 (x14_1 + 1)), (by first | rfl | (simp; done) | (simp [*]; done)), H', ⟨by have := HK1.out; omega⟩, ⟨kru HO_5.out⟩, ⟨khu HB.out⟩⟩
         rw [if_neg c12] at H
         exact absurd H (by simp)
        rw [if_neg c11] at H
        exact absurd H (by simp)
       rw [if_neg c10] at H
       exact absurd H (by simp)
      rw [if_neg c9] at H
      exact absurd H (by simp)
     rw [if_neg c8] at H
     have c8b0 : decide (x14_1 < (l0.length : Int)) = false := decide_eq_false c8
     clear c8
     obtain rfl := Option.some.inj H
     go_wp2
     go_ret
     exact ⟨_, by first | rfl | (simp [errW_none, errW_some] <;> rfl) | (simp only [← hji3]; first | rfl | (simp [errW_none, errW_some] <;> rfl)) | (simp [*, errW_none, errW_some] <;> rfl), kru HO_5.out, khu HB.out⟩
  rw [if_neg c5] at H
  exact absurd H (by simp)
 rw [if_neg c4] at H
 exact absurd H (by simp)
end Go.Proofs.YtodhkpdcpneeeaaDoor.PDv
namespace Go.Proofs.YtodhkpdcpneeeaaDoor.Mine
open Go.RowKit Go.Proofs.YtodhkpdcpneeeaaDoorW.PrintWords Go.Proofs.YtodhkpdcpneeeaaDoorW.PrintLast Go.Proofs.YtodhkpdcpneeeaaDoorW.PrintMore
open Go.Proofs.YtodhkpdcpneeeaaDoor.PDv
def Seg (W : World) (g : Nat) (pre : List Value) (xs : List Int) (post : List Value) : Prop := W.heap[g]? = some (.cells (pre ++ xs.map (Value.int .u64) ++ post).toArray 59 (0, 0))
theorem Seg.drewN {W : World} {g : Nat} {pre post : List Value} {xs : List Int} (h : Seg W g pre xs post) (n : Nat) : Seg (W.drewN n) g pre xs post := blk_drewN h n
theorem Seg.cell {W : World} {g : Nat} {pre post : List Value} {xs : List Int} (h : Seg W g pre xs post) (i : Int) (_h0 : 0 ≤ i) (h1 : i < xs.length) : W.cell? ⟨g, pre.length + i.toNat, none⟩ = some (.int .u64 (rd xs i)) := by
 rw [blk_cell h]
 have hi : i.toNat < xs.length := by omega
 simp only [List.getElem?_toArray]
 rw [List.append_assoc, List.getElem?_append_right (by omega), Nat.add_sub_cancel_left, List.getElem?_append_left (by simpa using hi), List.getElem?_map, List.getElem?_eq_getElem hi]
 simp [rd, List.getD_eq_getElem?_getD, List.getElem?_eq_getElem hi]
theorem Seg.cell0 {W : World} {g : Nat} {post : List Value} {xs : List Int} (h : Seg W g [] xs post) (i : Int) (h0 : 0 ≤ i) (h1 : i < xs.length) : W.cell? ⟨g, i.toNat, none⟩ = some (.int .u64 (rd xs i)) := by
 have := h.cell i h0 h1
 simpa using this
theorem Seg.free {W : World} {g : Nat} {pre post : List Value} {xs : List Int} (h : Seg W g pre xs post) (j : Nat) : W.frozen? ⟨g, j, none⟩ = false := blk_frozen h j
theorem Seg.put {W : World} {g : Nat} {pre post : List Value} {xs : List Int} (h : Seg W g pre xs post) (i : Int) (v : Int) (_h0 : 0 ≤ i) (h1 : i < xs.length) : Seg (W.setCell ⟨g, pre.length + i.toNat, none⟩ (.int .u64 v)) g pre (xs.set i.toNat v) post := by
 refine blk_put h _ _ ?_
 have hi : i.toNat < xs.length := by omega
 simp only [List.setIfInBounds_toArray]
 congr 1
 rw [List.append_assoc, List.append_assoc, List.set_append_right _ _ (by simp), Nat.add_sub_cancel_left, List.set_append_left _ _ (by simpa using hi), List.map_set]
theorem Seg.put0 {W : World} {g : Nat} {post : List Value} {xs : List Int} (h : Seg W g [] xs post) (i : Int) (v : Int) (h0 : 0 ≤ i) (h1 : i < xs.length) : Seg (W.setCell ⟨g, i.toNat, none⟩ (.int .u64 v)) g [] (xs.set i.toNat v) post := by
 have := h.put i v h0 h1
 simpa using this
theorem Seg.far {W : World} {g : Nat} {pre post : List Value} {xs : List Int} (h : Seg W g pre xs post) {p : Addr} (hp : g ≠ p.block) (u : Value) : Seg (W.setCell p u) g pre xs post := blk_far h hp u
theorem Seg.lt {W : World} {g : Nat} {pre post : List Value} {xs : List Int} (h : Seg W g pre xs post) : g < W.heap.size := blk_lt h
theorem Seg.keep {W W' : World} {g g' : Nat} {pre post : List Value} {xs : List Int} (h : Seg W g pre xs post) (hk : KeepBut W W' g' none) (hne : g ≠ g') : Seg W' g pre xs post := hk.blk h hne (by simp)
theorem Seg.below {W W' : World} {g : Nat} {pre post : List Value} {xs : List Int} (h : Seg W g pre xs post) (hb : Below W.heap.size W W') : Seg W' g pre xs post := blk_below h hb
theorem Seg.alloc {W : World} {g : Nat} {pre post : List Value} {xs : List Int} (h : Seg W g pre xs post) (o : Obj) : Seg (W.alloc o) g pre xs post := blk_alloc h o
theorem Seg.C {W : World} {g : Nat} {pre post : List Value} {xs : List Int} (h : Seg W g pre xs post) (hm : xs.length ≤ 9223372036854775807) : Kd.C (Kd.int .u64) W (some ⟨g, pre.length, none⟩) xs.length xs := by
 refine ⟨rfl, hm, fun _ => ⟨_, rfl, fun j p hj => ⟨[.int .u64 p], rfl, rfl, fun i u hu => ?_⟩⟩⟩
 obtain ⟨hjl, hjp⟩ := List.getElem?_eq_some_iff.1 hj
 have hi : i = 0 := by
  have := (List.getElem?_eq_some_iff.1 hu).1
  simpa using this
 subst hi
 have hu' : Value.int .u64 p = u := by simpa using hu
 subst hu'
 have hc := h.cell (j : Int) (by omega) (by omega)
 rw [show j * (Kd.int IntKind.u64).sz + 0 = j from by show j * 1 + 0 = j; omega]
 have ha : (⟨g, pre.length, none⟩ : Addr).add j = ⟨g, pre.length + (j : Int).toNat, none⟩ := by
  unfold Addr.add
  split <;> simp_all
 rw [ha, hc]
 simp [rd, List.getD_eq_getElem?_getD, hj]
theorem Seg.V {W : World} {g base c : Nat} {pre post : List Value} {xs : List Int} {ok : Nat → Prop} (h : Seg W g pre xs post) (hok : ok g) (hl : xs.length ≤ c) (hm : xs.length ≤ 9223372036854775807) : Kd.V (Kd.int .u64) 59 W base ok (.slice (some ⟨g, pre.length, none⟩) xs.length c) xs :=
 ⟨_, c, rfl, hl, fun W' hW => Seg.C (pre := pre) (post := post) (show Seg W' g pre xs post from (hW g hok h.lt).trans h) hm⟩
theorem Seg.of_R {W : World} {base : Nat} {ok : Nat → Prop} {v : Value} {xs : List Int} (h : Kd.R (Kd.int .u64) 59 W base ok v xs) (hp : 0 < xs.length) :
  ∃ g cap post, v = .slice (some ⟨g, 0, none⟩) xs.length cap ∧ base ≤ g ∧ xs.length ≤ cap ∧ cap ≤ maxLen ∧ Seg W g [] xs post := by
 have ho := Kd.own_of_R (enc := Value.int .u64) (h1 := fun _ => rfl) h
 rcases ho.2 with ⟨_, h0⟩ | ⟨g, cap, cur, rfl, hg, hh, hl, hc, hs, ht⟩
 ·omega
 refine ⟨g, cap, cur.toList.drop xs.length, rfl, hg, hl, hc, ?_⟩
 unfold Seg
 rw [hh]
 congr 2
 have e : (encs (Value.int .u64) xs) = xs.map (Value.int .u64) := rfl
 rw [e] at ht
 rw [Nat.mul_one] at ht
 rw [List.nil_append, ← ht, List.take_append_drop]
theorem KeepBut.drewN {w W : World} {g : Nat} (h : KeepBut w W g none) (n : Nat) : KeepBut w (W.drewN n) g none := h
theorem subtract_seg (k : Nat) (g c : Nat) (pre post : List Value) (xs : List Int) (A1 : Option Addr) (c1 : Nat) (l1 : List Int) (a2 : Int) (r1 : Bool) (r2 : List Int) (w : World) (hb : Seg w g pre xs post)
  (hv : ∀ W', KeepBut w W' g none → Kd.C (Kd.int .u64) W' A1 l1.length l1) (h : whole_subtract.f k xs l1 a2 = some (r1, r2)) :
  Calls Tryd.prog 115 #[.slice (some ⟨g, pre.length, none⟩) xs.length c, .slice A1 l1.length c1, .int .u64 a2] w fun e w' => e = .returned (.bool r1) ∧ r2.length = xs.length ∧ Seg w' g pre r2 post ∧ KeepBut w w' g none ∧ Below g w w' := by
 have HS := Aside0.mk hb
 have HV := Aside0.mk hv
 have HK := Aside0.mk (KeepBut.refl w g none)
 have HW := Aside0.mk (Below.refl g w)
 clear hb hv
 have H' := Aside0.mk (show whole_subtract.l0 k xs l1 a2 0 0 l1 (l1.length : Int) 0 = some (r1, r2) from h)
 clear h
 go_enter Tryd.func115, Tryd.ntmps115
 go_wp2
 go_loopg [7, 8, 16] k (fun kq v7 v8 v16 w' => ∃ (y : List Int) (x7 x8 x16 : Int), v7 = .int .u64 x7 ∧ v8 = .int .u64 x8 ∧ v16 = .int .i64 x16 ∧ Aside0 (whole_subtract.l0 kq y l1 a2 x7 x8 l1 (l1.length : Int) x16 = some (r1, r2)) ∧ Aside0 (kq ≤ k) ∧ Aside0 (y.length = xs.length) ∧ Aside0 (Seg w' g pre y post) ∧ Aside0 (KeepBut w w' g none) ∧ Aside0 (Below g w w'))
 case atStart => exact ⟨xs, 0, 0, 0, rfl, rfl, rfl, H', ⟨Nat.le_refl _⟩, ⟨rfl⟩, HS, HK, HW⟩
 case round =>
  clear H' HS HK HW
  obtain ⟨y, x7, x8, x16, rfl, rfl, rfl, HA, HK1, HL, HS, HK, HW⟩ := hrel
  cases gk with
  | zero => exact absurd HA.out (by simp [whole_subtract.l0])
  | succ k1 =>
   have H := HA.out
   clear HA
   simp only [whole_subtract.l0] at H
   by_cases c4 : x16 < (l1.length : Int)
   ·rw [if_pos c4] at H
    by_cases c5 : 0 ≤ x16
    ·rw [if_pos c5, if_pos c4] at H
     obtain ⟨⟨t144, t145⟩, A7, H⟩ := Option.bind_eq_some_iff.mp H
     obtain ⟨⟨t146, t147⟩, A8, H⟩ := Option.bind_eq_some_iff.mp H
     by_cases c9 : x16 < (y.length : Int)
     ·simp only [if_pos c9] at H
      obtain ⟨⟨t149, t150⟩, A10, H⟩ := Option.bind_eq_some_iff.mp H
      simp only at A8 A10 H
      have cw : x16 + 1 ≤ 9223372036854775807 := by have := (HV.out _ HK.out).2.1; omega
      have B7 := Aside0.mk A7
      rw [show wrap64 (x16 + 1) = x16 + 1 from IntWalk.wrap64_in _ ⟨by omega, cw⟩] at H
      have H2 := Aside0.mk H
      have hx8 := bits_Add64.run A8
      have hx10 := bits_Sub64.run A10
      clear A7 A8 A10 H
      obtain ⟨ad, rfl, hx⟩ := Kd.at_int (HV.out _ HK.out) x16 c5 c4
      have hu := HS.out.cell x16 c5 c9
      have hf := HS.out.free (pre.length + x16.toNat)
      have hp := Aside0.mk (HS.out.put x16 t149 c5 c9)
      have c9' : x16 < (xs.length : Int) := by rw [← HL.out]; exact c9
      go_wp2_with (first | (go_at_call 114; refine (bits_Mul64.calls _ _ t144 t145 _ B7.out).mono ?_; rintro e w' ⟨rfl, ⟨nd, rfl⟩⟩))
      go_roundg k1
      case measure => have := HK1.out; omega
      case rel => exact ⟨y.set x16.toNat t149, IntKind.u64.wrap (t144 + t147), t150, x16 + 1, rfl, rfl, rfl, H2, ⟨by have := HK1.out; omega⟩, ⟨by rw [List.length_set]; exact HL.out⟩, hp, ⟨HK.out.set_ _ _⟩, ⟨(pw_below_drewN HW.out _).setCell (Nat.le_refl _) _⟩⟩
     simp only [if_neg c9] at H; exact absurd H (by simp)
    rw [if_neg c5] at H; exact absurd H (by simp)
   rw [if_neg c4] at H
   by_cases c18 : (l1.length : Int) < (y.length : Int)
   ·rw [if_pos (by omega), if_pos c18] at H
    obtain ⟨⟨t153, t154⟩, A19, H⟩ := Option.bind_eq_some_iff.mp H
    simp only [Option.some.injEq, Prod.mk.injEq] at H
    obtain ⟨rfl, rfl⟩ := H
    have hx19 := bits_Sub64.run A19
    clear A19
    have hu := HS.out.cell (l1.length : Int) (by omega) c18
    have hf := HS.out.free (pre.length + l1.length)
    have hp := Aside0.mk (HS.out.put (l1.length : Int) t153 (by omega) c18)
    simp only [Int.toNat_natCast] at hu hp
    have c18' : l1.length < xs.length := by have := HL.out; omega
    go_wp2
    go_ret
    exact ⟨rfl, by simpa using HL.out, by simpa using hp.out, HK.out.set_ _ _, HW.out.setCell (Nat.le_refl _) _⟩
   rw [if_pos (by omega), if_neg c18] at H; exact absurd H (by simp)
theorem add_seg (k : Nat) (g c : Nat) (pre post : List Value) (xs : List Int) (A1 : Option Addr) (c1 : Nat) (l1 : List Int) (r2 : List Int) (w : World) (hb : Seg w g pre xs post)
  (hv : ∀ W', KeepBut w W' g none → Kd.C (Kd.int .u64) W' A1 l1.length l1) (h : whole_add.f k xs l1 = some r2) :
  Calls Tryd.prog 116 #[.slice (some ⟨g, pre.length, none⟩) xs.length c, .slice A1 l1.length c1] w fun e w' => e = .returned (.tuple #[]) ∧ r2.length = xs.length ∧ Seg w' g pre r2 post ∧ KeepBut w w' g none ∧ Below g w w' := by
 have HS := Aside0.mk hb
 have HV := Aside0.mk hv
 have HK := Aside0.mk (KeepBut.refl w g none)
 have HW := Aside0.mk (Below.refl g w)
 clear hb hv
 have H' := Aside0.mk (show whole_add.l0 k xs l1 0 l1 (l1.length : Int) 0 = some r2 from h)
 clear h
 go_enter Tryd.func116, Tryd.ntmps116
 go_wp2
 go_loopg [4, 9] k (fun kq v4 v9 w' => ∃ (y : List Int) (x4 x9 : Int), v4 = .int .u64 x4 ∧ v9 = .int .i64 x9 ∧ Aside0 (whole_add.l0 kq y l1 x4 l1 (l1.length : Int) x9 = some r2) ∧ Aside0 (kq ≤ k) ∧ Aside0 (y.length = xs.length) ∧ Aside0 (Seg w' g pre y post) ∧ Aside0 (KeepBut w w' g none) ∧ Aside0 (Below g w w'))
 case atStart => exact ⟨xs, 0, 0, rfl, rfl, H', ⟨Nat.le_refl _⟩, ⟨rfl⟩, HS, HK, HW⟩
 case round =>
  clear H' HS HK HW
  obtain ⟨y, x4, x9, rfl, rfl, HA, HK1, HL, HS, HK, HW⟩ := hrel
  cases gk with
  | zero => exact absurd HA.out (by simp [whole_add.l0])
  | succ k1 =>
   have H := HA.out
   clear HA
   simp only [whole_add.l0] at H
   by_cases c4 : x9 < (l1.length : Int)
   ·rw [if_pos c4] at H
    by_cases c5 : 0 ≤ x9
    ·rw [if_pos c5, if_pos c4] at H
     by_cases c9 : x9 < (y.length : Int)
     ·simp only [if_pos c9] at H
      obtain ⟨⟨t149, t150⟩, A10, H⟩ := Option.bind_eq_some_iff.mp H
      simp only at A10 H
      have cw : x9 + 1 ≤ 9223372036854775807 := by have := (HV.out _ HK.out).2.1; omega
      rw [show wrap64 (x9 + 1) = x9 + 1 from IntWalk.wrap64_in _ ⟨by omega, cw⟩] at H
      have H2 := Aside0.mk H
      have hx10 := bits_Add64.run A10
      clear A10 H
      obtain ⟨ad, rfl, hx⟩ := Kd.at_int (HV.out _ HK.out) x9 c5 c4
      have hu := HS.out.cell x9 c5 c9
      have hf := HS.out.free (pre.length + x9.toNat)
      have hp := Aside0.mk (HS.out.put x9 t149 c5 c9)
      have c9' : x9 < (xs.length : Int) := by rw [← HL.out]; exact c9
      go_wp2
      go_roundg k1
      case measure => have := HK1.out; omega
      case rel => exact ⟨y.set x9.toNat t149, t150, x9 + 1, rfl, rfl, H2, ⟨by have := HK1.out; omega⟩, ⟨by rw [List.length_set]; exact HL.out⟩, hp, ⟨HK.out.set_ _ _⟩, ⟨HW.out.setCell (Nat.le_refl _) _⟩⟩
     simp only [if_neg c9] at H; exact absurd H (by simp)
    rw [if_neg c5] at H; exact absurd H (by simp)
   rw [if_neg c4] at H
   by_cases c18 : (l1.length : Int) < (y.length : Int)
   ·rw [if_pos (by omega), if_pos c18] at H
    simp only [Option.some.injEq] at H
    subst H
    have hu := HS.out.cell (l1.length : Int) (by omega) c18
    have hf := HS.out.free (pre.length + l1.length)
    have hp := Aside0.mk (HS.out.put (l1.length : Int) (IntKind.u64.wrap ((rd y (l1.length : Int)) + x4)) (by omega) c18)
    simp only [Int.toNat_natCast] at hu hp
    have c18' : l1.length < xs.length := by have := HL.out; omega
    go_wp2
    go_end0
    exact ⟨rfl, by simpa using HL.out, by simpa using hp.out, HK.out.set_ _ _, HW.out.setCell (Nat.le_refl _) _⟩
   rw [if_pos (by omega), if_neg c18] at H; exact absurd H (by simp)
def quo_fix : Nat → Int → Int → Int → Int → Int → Option Int
 | 0, _, _, _, _, _ => none
 | k + 1, guess, rest, vn2, vn1, un2 => (bits_Mul64.f guess vn2).bind fun hl => if hl.1 < rest then some guess else if hl.1 = rest ∧ hl.2 ≤ un2 then some guess else
   if IntKind.u64.wrap (rest + vn1) < rest then some (IntKind.u64.wrap (guess - 1)) else quo_fix k (IntKind.u64.wrap (guess - 1)) (IntKind.u64.wrap (rest + vn1)) vn2 vn1 un2
theorem quo_fix.mono : ∀ k g r a b c, LeO (quo_fix k g r a b c) (quo_fix (k + 1) g r a b c)
 | 0 => fun _ _ _ _ _ r h => by simp [quo_fix] at h
 | k + 1 => by
  intro g r a b c
  have ih := quo_fix.mono k
  unfold quo_fix
  repeat' first
   | (with_reducible exact ih _ _ _ _ _)
   | (with_reducible exact LeO.refl _)
   | (with_reducible refine LeO.ite ?_ ?_)
   | (with_reducible refine LeO.bind ?_ (fun _ => ?_))
   | exact ih _ _ _ _ _
def quo_guess (k : Nat) (un un1 un2 vn1 vn2 : Int) : Option Int := if un < vn1 then (bits_Div64.f k un un1 vn1).bind fun qr => quo_fix k qr.1 qr.2 vn2 vn1 un2 else some 18446744073709551615
theorem quo_guess.mono (a b c d e : Int) (k : Nat) : LeO (quo_guess k a b c d e) (quo_guess (k + 1) a b c d e) := by
 unfold quo_guess
 repeat' first
   | (with_reducible exact quo_fix.mono _ _ _ _ _ _)
   | (with_reducible exact bits_Div64.mono _ _ _ _)
   | (with_reducible exact LeO.refl _)
   | (with_reducible refine LeO.ite ?_ ?_)
   | (with_reducible refine LeO.bind ?_ (fun _ => ?_))
def splice (u : List Int) (j : Nat) (s : List Int) : List Int := u.take j ++ s ++ u.drop (j + s.length)
def quo_go : Nat → List Int → List Int → List Int → Int → Option (List Int × List Int)
 | 0, _, _, _, _ => none
 | k + 1, u, v, q, j => if j < 0 then some (u, q) else if j + (v.length : Int) < (u.length : Int) ∧ j < (q.length : Int) ∧ 2 ≤ v.length then
   (quo_guess k (rd u (j + (v.length : Int))) (rd u (j + (v.length : Int) - 1)) (rd u (j + (v.length : Int) - 2)) (rd v ((v.length : Int) - 1)) (rd v ((v.length : Int) - 2))).bind fun g =>
   (whole_subtract.f k ((u.drop j.toNat).take (v.length + 1)) v g).bind fun bs => if bs.1 = true then
    (whole_add.f k bs.2 v).bind fun s => quo_go k (splice u j.toNat s) v (q.set j.toNat (IntKind.u64.wrap (g - 1))) (j - 1)
   else quo_go k (splice u j.toNat bs.2) v (q.set j.toNat g) (j - 1)
  else none
theorem quo_go.mono : ∀ k u v q j, LeO (quo_go k u v q j) (quo_go (k + 1) u v q j)
 | 0 => fun _ _ _ _ r h => by simp [quo_go] at h
 | k + 1 => by
  intro u v q j
  have ih := quo_go.mono k
  unfold quo_go
  repeat' first
   | (with_reducible exact ih _ _ _ _)
   | (with_reducible exact quo_guess.mono _ _ _ _ _ _)
   | (with_reducible exact whole_subtract.mono _ _ _ _)
   | (with_reducible exact whole_add.mono _ _ _)
   | (with_reducible exact LeO.refl _)
   | (with_reducible exact LeO.none _)
   | (with_reducible refine LeO.ite ?_ ?_)
   | (with_reducible refine LeO.bind ?_ (fun _ => ?_))
def whole_amount_quo.f (k : Nat) (a b : List Int) : Option (List Int × List Int) :=
 (whole_amount_cmp.f k a b).bind fun c => if c < 0 then some ([], a) else if b.length = 1 then
  (whole_amount_byLimb.f k a (rd b 0)).bind fun qr => (whole_trimmed.f k [qr.2]).bind fun r => some (qr.1, r)
 else if b.length < a.length + 1 ∧ 2 ≤ b.length ∧ a.length < 17592186044416 then
  (bits_LeadingZeros64.f (rd b ((b.length : Int) - 1))).bind fun s => if 0 ≤ s ∧ s ≤ 64 then (whole_amount_up.f k b s).bind fun v => (whole_amount_up.f k a s).bind fun u =>
  if b.length ≤ v.length ∧ b.length ≤ u.length then
  (quo_go k u (v.take b.length) (List.replicate (a.length - b.length + 1) 0) ((a.length : Int) - (b.length : Int))).bind fun uq =>
  (whole_trimmed.f k uq.2).bind fun q => (whole_trimmed.f k (uq.1.take b.length)).bind fun r0 => (whole_amount_down.f k r0 s).bind fun r => some (q, r)
  else none else none
 else none
theorem whole_amount_quo.mono : ∀ a b k, LeO (whole_amount_quo.f k a b) (whole_amount_quo.f (k + 1) a b) := by
 intro a b k
 unfold whole_amount_quo.f
 repeat' first
   | (with_reducible exact whole_amount_cmp.mono _ _ _)
   | (with_reducible exact whole_amount_byLimb.mono _ _ _)
   | (with_reducible exact whole_trimmed.mono _ _)
   | (with_reducible exact whole_amount_up.mono _ _ _)
   | (with_reducible exact whole_amount_down.mono _ _ _)
   | (with_reducible exact quo_go.mono _ _ _ _ _)
   | (with_reducible exact LeO.refl _)
   | (with_reducible exact LeO.none _)
   | (with_reducible refine LeO.ite ?_ ?_)
   | (with_reducible refine LeO.bind ?_ (fun _ => ?_))
theorem minfo59q : (Tryd.prog.info? 59).map (fun i => (i.zero, i.size, i.bytes)) = some (some (.int .u64 0), 1, 8) := by kernel_rfl
set_option maxHeartbeats 4000000 in
theorem quo_less (k : Nat) (P0_ : Nat → Prop) (A0 : Option Addr) (c0 : Nat) (l0 : List Int) (A1 : Option Addr) (c1 : Nat) (l1 : List Int) (w : World) (hs0 : Kd.V (Kd.int .u64) 59 w w.heap.size (fun k_ => P0_ k_) (.slice A0 l0.length c0) l0) (hr1 : Kd.C (Kd.int .u64) w A1 l1.length l1) (hc1 : l1.length ≤ c1) (c : Int)
  (hc : whole_amount_cmp.f k l0 l1 = some c) (hlt : c < 0) :
  Calls Tryd.prog 92 #[.slice A0 l0.length c0, .slice A1 l1.length c1] w fun e w' => ∃ v0_ v1_ : Value, e = .returned (.tuple #[v0_, v1_]) ∧ Kd.V (Kd.int .u64) 59 w' w.heap.size (fun k_ => (P0_ k_ ∨ w.heap.size ≤ k_)) v0_ [] ∧ Kd.V (Kd.int .u64) 59 w' w.heap.size (fun k_ => (P0_ k_ ∨ w.heap.size ≤ k_)) v1_ l0 ∧ Below w.heap.size w w' := by
 have h0 := Kd.V_reads' hs0
 go_enter Tryd.func92, Tryd.ntmps92
 go_wp2_with (first | (go_at_call 95; refine (whole_amount_cmp.calls k _ _ l0 _ _ l1 c _ h0.2.2 h0.2.1 hr1 hc1 hc).mono ?_; rintro e w1 ⟨rfl, hd⟩; have HB := Aside0.mk hd.below; clear hd))
 go_ret2
 exact ⟨_, _, rfl, Kd.V_nil _ _ _ _ _, Kd.V_mono (Kd.V_below hs0 HB.out) (fun _ h => .inl h), HB.out⟩
set_option maxHeartbeats 4000000 in
theorem quo_one (k : Nat) (P0_ : Nat → Prop) (A0 : Option Addr) (c0 : Nat) (l0 : List Int) (A1 : Option Addr) (c1 : Nat) (l1 : List Int) (w : World) (hs0 : Kd.V (Kd.int .u64) 59 w w.heap.size (fun k_ => P0_ k_) (.slice A0 l0.length c0) l0) (hr1 : Kd.C (Kd.int .u64) w A1 l1.length l1) (hc1 : l1.length ≤ c1) (c : Int) (q r2 : List Int) (r : Int)
  (hc : whole_amount_cmp.f k l0 l1 = some c) (hlt : ¬ c < 0) (h1 : l1.length = 1) (hq : whole_amount_byLimb.f k l0 (rd l1 0) = some (q, r)) (hr : whole_trimmed.f k [r] = some r2) :
  Calls Tryd.prog 92 #[.slice A0 l0.length c0, .slice A1 l1.length c1] w fun e w' => ∃ v0_ v1_ : Value, e = .returned (.tuple #[v0_, v1_]) ∧ Kd.V (Kd.int .u64) 59 w' w.heap.size (fun k_ => (P0_ k_ ∨ w.heap.size ≤ k_)) v0_ q ∧ Kd.V (Kd.int .u64) 59 w' w.heap.size (fun k_ => (P0_ k_ ∨ w.heap.size ≤ k_)) v1_ r2 ∧ Below w.heap.size w w' := by
 have h0 := Kd.V_reads' hs0
 have b1 : ((l1.length : Int) == 1) = true := by rw [h1]; rfl
 have b1' : (l1.length == 1) = true := by rw [h1]; rfl
 have HL := Aside0.mk h1
 have hl0 : 0 < l1.length := by omega
 obtain ⟨ad, rfl, hx⟩ := Kd.at_int hr1 0 (by omega) (by omega)
 have hxx : ∀ w1, Below w.heap.size w w1 → w1.cell? ad = some (.int .u64 (rd l1 0)) := fun w1 hb => by
  have := (hb.cell (World.block_lt_of_cell? w _ hx)).trans hx
  rwa [show (0 : Int).toNat = 0 from rfl, Addr.add_zero'] at this
 have HX := Aside0.mk hxx
 clear hx hxx h1
 go_enter Tryd.func92, Tryd.ntmps92
 go_wp2_with (first
  | (go_at_call 95; refine (whole_amount_cmp.calls k _ _ l0 _ _ l1 c _ h0.2.2 h0.2.1 hr1 hc1 hc).mono ?_; rintro e w1 ⟨rfl, hd⟩; have HB := Aside0.mk hd.below; clear hd; have hx0 := HX.out _ HB.out)
  | (go_at_call 68; refine (whole_amount_byLimb.calls k _ _ l0 (rd l1 0) q r _ (Kd.C_below h0.2.2 HB.out) h0.2.1 hq).mono ?_; rintro e w2 ⟨v0, rfl, hv0, hb2⟩; have HV0 := Aside0.mk hv0; have HB2 := Aside0.mk (HB.out.trans (hb2.mono HB.out.size)); clear hv0 hb2)
  | (go_at_call 83; refine (whole_trimmed.calls k (fun k_ => w.heap.size ≤ k_) _ 1 [r] r2 _ (Seg.V (pre := []) (post := []) (xs := [r]) (g := w2.heap.size) (blk_new w2 _) HB2.out.size (Nat.le_refl 1) (by simp)) hr).mono ?_; rintro e w3 ⟨v1, rfl, hv1, hb3⟩; have HV1 := Aside0.mk hv1; have HB3 := Aside0.mk hb3; clear hv1 hb3))
 go_ret2
 have hba : Below w2.heap.size w2 w3 := (below_alloc (Below.refl _ _) _).trans (HB3.out.mono (by simp))
 have hB3 : Below w.heap.size w w3 := HB2.out.trans (hba.mono HB2.out.size)
 refine ⟨_, _, rfl, Kd.V_mono (Kd.V_below HV0.out hba) (fun k_ hk => .inr (Nat.le_trans HB.out.size hk)), Kd.V_mono HV1.out (fun k_ hk => .inr (hk.elim id (fun h => Nat.le_trans HB2.out.size (by simp at h; omega)))), hB3⟩
theorem getElem_madeCells (z : Value) (m i : Nat) (hz : z.cells = #[z]) (h : i < m) : (madeCells z.cells m)[i]? = some z := by
 simp [madeCells, hz, h, Nat.mod_one]
theorem Seg.make (w4 : World) (m : Nat) (h : m ≤ 17592186044416) : ∃ w5 gq, (Instr.makeSlice 22 (.int .i64 (m : Int)) (.int .i64 (m : Int))).run Tryd.prog w4 = .ok (.slice (some ⟨gq, 0, none⟩) m m) w5 ∧ Seg w5 gq [] (List.replicate m 0) [] ∧ Below w4.heap.size w4 w5 ∧ w4.heap.size ≤ gq := by
 obtain ⟨i0, hi0, hz0, hz1, hz2⟩ := info_parts minfo59q
 have hr := run_make (P := Tryd.prog) w4 22 59 i0 (.int .u64 0) Tryd.underlying22 hi0 hz0 .i64 .i64 m m (by omega) (by omega) (by rw [hz2]; omega) (by omega)
 simp only [Int.toNat_natCast, hz1, Nat.mul_one] at hr
 refine ⟨_, _, hr, ?_, below_alloc (Below.refl _ _) _, Nat.le_refl _⟩
 have he : madeCells (Value.int .u64 0).cells m = ([] ++ (List.replicate m (0 : Int)).map (Value.int .u64) ++ []).toArray := by
  apply Array.ext_getElem?
  intro i
  by_cases hi : i < m
  ·rw [getElem_madeCells _ _ _ rfl hi]; simp [hi]
  rw [Array.getElem?_eq_none (by rw [size_madeCells]; omega)]; simp [hi]
 rw [he]
 exact blk_new w4 _
theorem Seg.cutTo {W : World} {g : Nat} {xs : List Int} {post : List Value} (h : Seg W g [] xs post) (n : Nat) : Seg W g [] (xs.take n) ((xs.drop n).map (Value.int .u64) ++ post) := by
 unfold Seg at *
 rw [h]
 congr 3
 rw [List.nil_append, List.nil_append, ← List.append_assoc, ← List.map_append, List.take_append_drop]
theorem Seg.mid {W : World} {g : Nat} {a b c : List Int} {post : List Value} : Seg W g [] (a ++ b ++ c) post ↔ Seg W g (a.map (Value.int .u64)) b (c.map (Value.int .u64) ++ post) := by
 unfold Seg
 simp only [List.map_append, List.nil_append, List.append_assoc]
theorem splice_self (u : List Int) (j n : Nat) (h : j + n ≤ u.length) : splice u j ((u.drop j).take n) = u := by
 unfold splice
 rw [List.length_take, List.length_drop, Nat.min_eq_left (by omega)]
 rw [← List.drop_drop, List.append_assoc, List.take_append_drop, List.take_append_drop]
theorem splice_len (u : List Int) (j : Nat) (s : List Int) (h : j + s.length ≤ u.length) : (splice u j s).length = u.length := by
 unfold splice
 simp only [List.length_append, List.length_take, List.length_drop]
 omega
theorem sub_at (k j n gu cu gv cv : Nat) (U v : List Int) (pu pv : List Value) (g : Int) (b : Bool) (U1 : List Int) (W : World) (hu : Seg W gu [] U pu) (hv : Seg W gv [] v pv) (hne : gv ≠ gu) (hj : j + n + 1 ≤ U.length) (hn : n ≤ v.length) (hm : n ≤ 9223372036854775807)
  (h : whole_subtract.f k ((U.drop j).take (n + 1)) (v.take n) g = some (b, U1)) :
  Calls Tryd.prog 115 #[.slice (some ⟨gu, j, none⟩) (n + 1) cu, .slice (some ⟨gv, 0, none⟩) n cv, .int .u64 g] W fun e w' => e = .returned (.bool b) ∧ U1.length = n + 1 ∧ Seg w' gu [] (splice U j U1) pu ∧ KeepBut W w' gu none ∧ Below gu W w' := by
 have hx : ((U.drop j).take (n + 1)).length = n + 1 := by rw [List.length_take, List.length_drop]; omega
 have hp : ((U.take j).map (Value.int .u64)).length = j := by rw [List.length_map, List.length_take]; omega
 have hvl : (v.take n).length = n := by rw [List.length_take]; omega
 have hu' := hu
 rw [← splice_self U j (n + 1) (by omega)] at hu'
 unfold splice at hu'
 rw [Seg.mid] at hu'
 have := subtract_seg k gu cu _ _ _ (some ⟨gv, 0, none⟩) cv (v.take n) g b U1 W hu' (fun W' hk => Seg.C (pre := []) ((hv.keep hk hne).cutTo n) (by omega)) h
 rw [hp, hx, hvl] at this
 refine this.mono ?_
 rintro e w' ⟨he, hl, hs, hk⟩
 refine ⟨he, hl, ?_, hk⟩
 unfold splice
 rw [Seg.mid, hl]
 exact hs
theorem add_at (k j n gu cu gv cv : Nat) (U v : List Int) (pu pv : List Value) (U1 s : List Int) (W : World) (hu : Seg W gu [] (splice U j U1) pu) (hv : Seg W gv [] v pv) (hne : gv ≠ gu) (hj : j + n + 1 ≤ U.length) (hl : U1.length = n + 1) (hn : n ≤ v.length) (hm : n ≤ 9223372036854775807)
  (h : whole_add.f k U1 (v.take n) = some s) :
  Calls Tryd.prog 116 #[.slice (some ⟨gu, j, none⟩) (n + 1) cu, .slice (some ⟨gv, 0, none⟩) n cv] W fun e w' => e = .returned (.tuple #[]) ∧ s.length = n + 1 ∧ Seg w' gu [] (splice U j s) pu ∧ KeepBut W w' gu none ∧ Below gu W w' := by
 have hp : ((U.take j).map (Value.int .u64)).length = j := by rw [List.length_map, List.length_take]; omega
 have hvl : (v.take n).length = n := by rw [List.length_take]; omega
 have hu' := hu
 unfold splice at hu'
 rw [Seg.mid] at hu'
 have := add_seg k gu cu _ _ _ (some ⟨gv, 0, none⟩) cv (v.take n) s W hu' (fun W' hk => Seg.C (pre := []) ((hv.keep hk hne).cutTo n) (by omega)) h
 rw [hp, hl, hvl] at this
 refine this.mono ?_
 rintro e w' ⟨he, hl', hs, hk⟩
 refine ⟨he, hl', ?_, hk⟩
 unfold splice
 rw [Seg.mid, hl']
 exact hs
theorem cut_mid (gu : Nat) (n c : Nat) (j h : Int) (h0 : 0 ≤ j) (h1 : j < h) (h2 : h ≤ c) (W : World) :
  (Instr.slice 22 (.slice (some ⟨gu, 0, none⟩) n c) (some (.int .i64 j)) (some (.int .i64 h)) none).run Tryd.prog W = .ok (.slice (some ⟨gu, j.toNat, none⟩) (h - j).toNat (c - j.toNat)) W := by
 obtain ⟨i0, hi, hz0, hz1, hz2⟩ := info_parts minfo59q
 have hel : Tryd.prog.elem 22 = 59 := by simp [Program.elem, Tryd.underlying22]
 have hu : Tryd.prog.underlying 22 = some (.slice (Tryd.prog.elem 22)) := by rw [hel]; exact Tryd.underlying22
 rw [run_slice_lh W 22 _ n c hu .i64 .i64 j h h0 (by omega) h2, hel]
 have e1 : c ≠ j.toNat := by omega
 have e2 : (Addr.add ⟨gu, 0, none⟩ j.toNat) = ⟨gu, j.toNat, none⟩ := by
  unfold Addr.add
  split <;> simp_all
 have e3 : h.toNat - j.toNat = (h - j).toNat := by omega
 simp [sizeOf, typeInfo, hi, hz1, sliced, Result.andThen, e1, e2, e3]
theorem rd_take (l : List Int) (n : Nat) (i : Int) (h0 : 0 ≤ i) (h : i < n) : rd (l.take n) i = rd l i := by
 simp [rd, List.getD_eq_getElem?_getD, show i.toNat < n from by omega]
theorem quo_more (k : Nat) (P0_ : Nat → Prop) (A0 : Option Addr) (c0 : Nat) (l0 : List Int) (A1 : Option Addr) (c1 : Nat) (l1 : List Int) (w : World) (hs0 : Kd.V (Kd.int .u64) 59 w w.heap.size (fun k_ => P0_ k_) (.slice A0 l0.length c0) l0) (hr1 : Kd.C (Kd.int .u64) w A1 l1.length l1) (hc1 : l1.length ≤ c1) (c s : Int) (v u rU rQ q r0 r : List Int)
  (hc : whole_amount_cmp.f k l0 l1 = some c) (hlt : ¬ c < 0) (h1 : ¬ l1.length = 1) (h2 : l1.length < l0.length + 1) (h3 : 2 ≤ l1.length) (h4 : l0.length < 17592186044416)
  (hs : bits_LeadingZeros64.f (rd l1 ((l1.length : Int) - 1)) = some s) (hs1 : 0 ≤ s) (hs2 : s ≤ 64) (hv : whole_amount_up.f k l1 s = some v) (hu : whole_amount_up.f k l0 s = some u) (hv1 : l1.length ≤ v.length) (hu1 : l1.length ≤ u.length)
  (hg : quo_go k u (v.take l1.length) (List.replicate (l0.length - l1.length + 1) 0) ((l0.length : Int) - (l1.length : Int)) = some (rU, rQ))
  (hq : whole_trimmed.f k rQ = some q) (hr0 : whole_trimmed.f k (rU.take l1.length) = some r0) (hr : whole_amount_down.f k r0 s = some r) :
  Calls Tryd.prog 92 #[.slice A0 l0.length c0, .slice A1 l1.length c1] w fun e w' => ∃ v0_ v1_ : Value, e = .returned (.tuple #[v0_, v1_]) ∧ Kd.V (Kd.int .u64) 59 w' w.heap.size (fun k_ => (P0_ k_ ∨ w.heap.size ≤ k_)) v0_ q ∧ Kd.V (Kd.int .u64) 59 w' w.heap.size (fun k_ => (P0_ k_ ∨ w.heap.size ≤ k_)) v1_ r ∧ Below w.heap.size w w' := by
 have h0 := Kd.V_reads' hs0
 have b1 : ((l1.length : Int) == 1) = false := by rw [beq_eq_false_iff_ne]; omega
 have b1' : (l1.length == 1) = false := by rw [beq_eq_false_iff_ne]; omega
 have hl0 : (l1.length : Int) - 1 < l1.length := by omega
 have hl1 : 0 ≤ (l1.length : Int) - 1 := by omega
 have wl1 : wrap64 ((l1.length : Int) - 1) = (l1.length : Int) - 1 := IntWalk.wrap64_in _ ⟨by omega, by omega⟩
 obtain ⟨ad, rfl, hx⟩ := Kd.at_int hr1 ((l1.length : Int) - 1) (by omega) (by omega)
 have hxx : ∀ w1, Below w.heap.size w w1 → w1.cell? (ad.add (l1.length - 1)) = some (.int .u64 (rd l1 ((l1.length : Int) - 1))) := fun w1 hb => by
  rw [show l1.length - 1 = ((l1.length : Int) - 1).toNat from by omega]
  exact (hb.cell (World.block_lt_of_cell? w _ hx)).trans hx
 have HX := Aside0.mk hxx
 clear hx hxx h1 wl1
 go_enter Tryd.func92, Tryd.ntmps92
 go_wp2_with (first
  | (go_at_call 95; refine (whole_amount_cmp.calls k _ _ l0 _ _ l1 c _ h0.2.2 h0.2.1 hr1 hc1 hc).mono ?_; rintro e w1 ⟨rfl, hd⟩; have HB := Aside0.mk hd.below; clear hd; have hx0 := HX.out _ HB.out)
  | (go_at_call 112; refine (bits_LeadingZeros64.calls _ s _ hs).mono ?_; rintro e w2 ⟨rfl, hd⟩; have HB2 := Aside0.mk (HB.out.trans (hd.below.mono HB.out.size)); clear hd hx0)
  | (go_at_call 113; (with_reducible refine (whole_amount_up.calls k _ _ l1 s v _ ?sv hc1 hv).mono ?_); (case sv => exact Kd.C_below hr1 HB2.out); rintro e w3 ⟨vv, rfl, hR, hb⟩; obtain ⟨gv, cv, pv, rfl, hgv, hlv, hcv, hsv⟩ := Seg.of_R hR (by omega); have HSV := Aside0.mk hsv; have HB3 := Aside0.mk (HB2.out.trans (hb.mono HB2.out.size)); have HGV := Aside0.mk (Nat.le_trans HB2.out.size hgv); clear hR hb hsv hgv; obtain ⟨i0, hi0, _, _, _⟩ := info_parts minfo59q; have hcut := cut_to (P := Tryd.prog) 22 59 .i64 Tryd.underlying22 hi0 (some ⟨gv, 0, none⟩) v.length cv (l1.length : Int) (by omega) (by omega) hlv; simp only [Int.toNat_natCast] at hcut)
  | (go_at_call 113; (with_reducible refine (whole_amount_up.calls k _ _ l0 s u _ ?su h0.2.1 hu).mono ?_); (case su => exact Kd.C_below h0.2.2 HB3.out); rintro e w4 ⟨uu, rfl, hR, hb⟩; obtain ⟨gu, cu, pu, rfl, hgu, hlu, hcu, hsu⟩ := Seg.of_R hR (by omega); have HNE := Aside0.mk (show gv ≠ gu from by have := HSV.out.lt; omega); have hsv3 := HSV.out; have HB4 := Aside0.mk (HB3.out.trans (hb.mono HB3.out.size)); have HGU := Aside0.mk (Nat.le_trans HB3.out.size hgu); obtain ⟨w5, gq, hmk, hsq, hbq, hgq⟩ := Seg.make w4 (l0.length - l1.length + 1) (by omega); rw [show ((l0.length - l1.length + 1 : Nat) : Int) = (l0.length : Int) - (l1.length : Int) + 1 from by omega] at hmk; have HSV5 := Aside0.mk ((hsv3.below hb).below hbq); have HSU5 := Aside0.mk (hsu.below hbq); have HSQ5 := Aside0.mk hsq; have HB5 := Aside0.mk (HB4.out.trans (hbq.mono HB4.out.size)); have HNQ := Aside0.mk (show gq ≠ gv ∧ gq ≠ gu from by have h1 := (hsv3.below hb).lt; have h2 := hsu.lt; omega); have HGQ := Aside0.mk (Nat.le_trans HB4.out.size hgq); clear hR hb hsu hgu hcut hsv3 hsq hbq hgq))
 clear hmk
 have hVl : (v.take l1.length).length = l1.length := by rw [List.length_take]; omega
 have HG := Aside0.mk hg
 clear hg
 go_loopg [14] k (fun kq v14 w' => ∃ (U Q : List Int) (j : Int), v14 = .int .i64 j ∧ Aside0 (quo_go kq U (v.take l1.length) Q j = some (rU, rQ)) ∧ Aside0 (kq ≤ k) ∧ Aside0 (U.length = u.length) ∧ Aside0 (Q.length = l0.length - l1.length + 1) ∧ Aside0 (Seg w' gv [] v pv) ∧ Aside0 (Seg w' gu [] U pu) ∧ Aside0 (Seg w' gq [] Q []) ∧ Aside0 (Below w.heap.size w w'))
 case atStart => exact ⟨u, _, _, rfl, HG, ⟨Nat.le_refl _⟩, ⟨rfl⟩, ⟨by simp⟩, HSV5, HSU5, HSQ5, HB5⟩
 case round =>
  clear HG HSV5 HSU5 HSQ5 HB5 HSV
  obtain ⟨U, Q, j, rfl, HA, HK1, HLU, HLQ, HSV, HSU, HSQ, HB⟩ := hrel
  cases gk with
  | zero => exact absurd HA.out (by simp [quo_go])
  | succ k1 =>
   have H := HA.out
   clear HA
   simp only [quo_go, hVl, HLU.out, HLQ.out] at H
   by_cases cj : j < 0
   ·rw [if_pos cj, Option.some.injEq, Prod.mk.injEq] at H
    obtain ⟨rfl, rfl⟩ := H
    have HBW : ∀ W, Below wr.heap.size wr W → w.heap.size ≤ W.heap.size := fun W hb => Nat.le_trans HB.out.size hb.size
    have TQ := Aside0.mk (show ∀ W, Below wr.heap.size wr W → Calls Tryd.prog 83 #[.slice (some ⟨gq, 0, none⟩) (l0.length - l1.length + 1) (l0.length - l1.length + 1)] W fun e w' => ∃ v0_ : Value, e = .returned (v0_) ∧ Kd.V (Kd.int .u64) 59 w' w.heap.size (fun k_ => w.heap.size ≤ k_) v0_ q ∧ Below W.heap.size W w' ∧ Below wr.heap.size wr w' from fun W hb => by
     have := whole_trimmed.calls k (fun k_ => w.heap.size ≤ k_) (some ⟨gq, 0, none⟩) (l0.length - l1.length + 1) Q q W (Seg.V (pre := []) (HSQ.out.below hb) HGQ.out (by rw [HLQ.out]; omega) (by rw [HLQ.out]; omega)) hq
     rw [HLQ.out] at this
     refine this.mono ?_
     rintro e w' ⟨v, he, hv, hb'⟩
     exact ⟨v, he, Kd.V_lower (Kd.V_mono hv (fun k_ hk => hk.elim id (fun h => Nat.le_trans (HBW W hb) h))) (HBW W hb), hb', hb.trans (hb'.mono hb.size)⟩)
    have TU := Aside0.mk (show ∀ W, Below wr.heap.size wr W → Calls Tryd.prog 83 #[.slice (some ⟨gu, 0, none⟩) l1.length cu] W fun e w' => ∃ v0_ : Value, e = .returned (v0_) ∧ (∃ A c, v0_ = .slice A r0.length c ∧ r0.length ≤ c ∧ Kd.C (Kd.int .u64) w' A r0.length r0) ∧ Below W.heap.size W w' ∧ Below wr.heap.size wr w' from fun W hb => by
     have hl : (U.take l1.length).length = l1.length := by rw [List.length_take, HLU.out]; omega
     have := whole_trimmed.calls k (fun k_ => w.heap.size ≤ k_) (some ⟨gu, 0, none⟩) cu (U.take l1.length) r0 W (Seg.V (pre := []) ((HSU.out.below hb).cutTo _) HGU.out (by rw [hl]; omega) (by rw [hl]; omega)) hr0
     rw [hl] at this
     refine this.mono ?_
     rintro e w' ⟨v, he, hv, hb'⟩
     obtain ⟨A, c, rfl, hc, -⟩ := id hv
     exact ⟨_, he, ⟨A, c, rfl, hc, (Kd.V_reads' hv).2.2⟩, hb', hb.trans (hb'.mono hb.size)⟩)
    have TD := Aside0.mk (show ∀ W A c, Below wr.heap.size wr W → r0.length ≤ c → Kd.C (Kd.int .u64) W A r0.length r0 → Calls Tryd.prog 117 #[.slice A r0.length c, .int .u64 s] W fun e w' => ∃ v0_ : Value, e = .returned (v0_) ∧ Kd.V (Kd.int .u64) 59 w' w.heap.size (fun k_ => w.heap.size ≤ k_) v0_ r ∧ Below W.heap.size W w' ∧ Below wr.heap.size wr w' from fun W A c hb hcl hC => by
     refine (whole_amount_down.calls k A c r0 s r W hC hcl hr).mono ?_
     rintro e w' ⟨v, he, hv, hb'⟩
     exact ⟨v, he, Kd.V_lower (Kd.V_mono hv (fun k_ hk => Nat.le_trans (HBW W hb) hk)) (HBW W hb), hb', hb.trans (hb'.mono hb.size)⟩)
    have HBC := Aside0.mk (Below.refl wr.heap.size wr)
    obtain ⟨i1, hi1, _, _, _⟩ := info_parts minfo59q
    have hcut := cut_to (P := Tryd.prog) 22 59 .i64 Tryd.underlying22 hi1 (some ⟨gu, 0, none⟩) u.length cu (l1.length : Int) (by omega) (by omega) hlu
    simp only [Int.toNat_natCast] at hcut
    clear hr hq hr0 HBW
    go_upto_region 28 with (fail)
    go_region_with (first
     | (go_at_call_of 83 gq; refine (TQ.out _ ?hbt).mono ?_; (case hbt => (first | exact HBC.out | exact pw_below_drewN HBC.out _ | exact pw_below_drewN HBC.out 1)); rintro e w8 ⟨vq, rfl, hvq, hb, hbc⟩; (try replace HCU := Aside0.mk (Kd.C_below HCU.out hb)); (try replace HVR := Aside0.mk (Kd.V_below HVR.out hb)); have HVQ := Aside0.mk hvq; clear HBC; have HBC := Aside0.mk hbc; clear hvq hb hbc)
     | (go_at_call_of 83 gu; refine (TU.out _ ?hbt).mono ?_; (case hbt => (first | exact HBC.out | exact pw_below_drewN HBC.out _ | exact pw_below_drewN HBC.out 1)); rintro e w8 ⟨vu, rfl, ⟨au, cu', rfl, hcu', hc⟩, hb, hbc⟩; (try replace HVQ := Aside0.mk (Kd.V_below HVQ.out hb)); have HCU := Aside0.mk hc; have HCC := Aside0.mk hcu'; clear HBC; have HBC := Aside0.mk hbc; clear hb hc hcu' hbc)
     | (go_at_call 117; refine (TD.out _ _ _ ?hbt HCC.out ?hcd).mono ?_; (case hbt => (first | exact HBC.out | exact pw_below_drewN HBC.out _ | exact pw_below_drewN HBC.out 1)); (case hcd => exact HCU.out); rintro e w8 ⟨vr, rfl, hvr, hb, hbc⟩; (try replace HVQ := Aside0.mk (Kd.V_below HVQ.out hb)); have HVR := Aside0.mk hvr; clear HBC; have HBC := Aside0.mk hbc; clear hvr hb hbc))
    all_goals go_wp2
    all_goals go_ret2
    all_goals exact ⟨_, _, rfl, Kd.V_mono HVQ.out (fun _ h => .inr h), Kd.V_mono HVR.out (fun _ h => .inr h), HB.out.trans (HBC.out.mono HB.out.size)⟩
   rw [if_neg cj] at H
   by_cases c1 : j + (l1.length : Int) < (u.length : Int) ∧ j < ((l0.length - l1.length + 1 : Nat) : Int) ∧ 2 ≤ l1.length
   ·rw [if_pos c1] at H
    obtain ⟨c1, c2, _⟩ := c1
    obtain ⟨g, hgs, H⟩ := Option.bind_eq_some_iff.mp H
    obtain ⟨⟨b, U1⟩, hsub, H⟩ := Option.bind_eq_some_iff.mp H
    have H := Aside0.mk H
    have HSB := Aside0.mk hsub
    clear hsub
    have hu0 := HSU.out.cell0 (j + (l1.length : Int)) (by omega) (by rw [HLU.out]; omega)
    have hu1 := HSU.out.cell0 (j + (l1.length : Int) - 1) (by omega) (by rw [HLU.out]; omega)
    have hu2 := HSU.out.cell0 (j + (l1.length : Int) - 2) (by omega) (by rw [HLU.out]; omega)
    have hv0 := HSV.out.cell0 ((l1.length : Int) - 1) (by omega) (by omega)
    have hv1 := HSV.out.cell0 ((l1.length : Int) - 2) (by omega) (by omega)
    rw [← rd_take v l1.length _ (by omega) (by omega)] at hv0 hv1
    rw [show ((l1.length : Int) - 1).toNat = l1.length - 1 from by omega] at hv0
    rw [show (j + (l1.length : Int) - 1).toNat = (j + (l1.length : Int)).toNat - 1 from by omega] at hu1
    rw [show ((l1.length : Int) - 2).toNat = l1.length - 2 from by omega] at hv1
    generalize hun0 : rd U (j + (l1.length : Int)) = un0 at hu0 hgs
    generalize hun1 : rd U (j + (l1.length : Int) - 1) = un1 at hu1 hgs
    generalize hun2 : rd U (j + (l1.length : Int) - 2) = un2 at hu2 hgs
    generalize hvn1 : rd (v.take l1.length) ((l1.length : Int) - 1) = vn1 at hv0 hgs
    generalize hvn2 : rd (v.take l1.length) ((l1.length : Int) - 2) = vn2 at hv1 hgs
    clear hun0 hun1 hun2 hvn1 hvn2
    have HGS := Aside0.mk hgs
    clear hgs
    go_wp2
    go_quiet (fail)
    go_upto_if 83 with (fail)
    go_cut [15] (fun v15 wc => v15 = .int .u64 g ∧ Aside0 (Seg wc gv [] v pv) ∧ Aside0 (Seg wc gu [] U pu) ∧ Aside0 (Seg wc gq [] Q []) ∧ Aside0 (Below w.heap.size w wc))
    case first =>
     replace HGS := HGS.out
     by_cases cg : un0 < vn1
     ·simp only [quo_guess, if_pos cg] at HGS
      obtain ⟨⟨g0, t0⟩, hdiv, HGS⟩ := Option.bind_eq_some_iff.mp HGS
      replace HGS := Aside0.mk HGS
      have HDV := Aside0.mk hdiv
      clear hdiv
      go_wp2
      go_quiet (first | (go_at_call 97; refine (bits_Div64.calls k1 un0 un1 vn1 g0 t0 _ HDV.out).mono ?_; rintro e w' ⟨rfl, ⟨nd, rfl⟩⟩; exact ⟨rfl, _, by rw [World.drewN_drewN, Nat.add_assoc]⟩))
      go_wp2
      go_loopg [15, 16] k1 (fun kr v15 v16 w' => ∃ (x15 x16 : Int), v15 = .int .u64 x15 ∧ v16 = .int .u64 x16 ∧ Aside0 (quo_fix kr x15 x16 vn2 vn1 un2 = some g) ∧ Aside0 (kr ≤ k1) ∧ Aside0 (∃ m, w' = wr.drewN m))
      case atStart => exact ⟨_, _, rfl, rfl, HGS, ⟨Nat.le_refl _⟩, ⟨_, by rw [World.drewN_drewN]⟩⟩
      case round =>
       obtain ⟨x15, x16, rfl, rfl, HA, HK2, HW⟩ := hrel
       obtain ⟨m, rfl⟩ := HW.out
       clear HW
       cases gk with
       | zero => exact absurd HA.out (by simp [quo_fix])
       | succ k2 =>
        have H := HA.out
        clear HA
        simp only [quo_fix] at H
        obtain ⟨⟨hi, lo⟩, hmul, H⟩ := Option.bind_eq_some_iff.mp H
        have HM := Aside0.mk hmul
        clear hmul
        simp only at H
        by_cases d1 : hi < x16
        ·rw [if_pos d1, Option.some.injEq] at H
         subst H
         go_wp2_with (first | (go_at_call 114; refine (bits_Mul64.calls _ _ hi lo _ HM.out).mono ?_; rintro e w' ⟨rfl, ⟨nd, rfl⟩⟩))
         go_meet
         case rel => exact ⟨rfl, ⟨by simpa only [World.drewN_drewN] using HSV.out.drewN _⟩, ⟨by simpa only [World.drewN_drewN] using HSU.out.drewN _⟩, ⟨by simpa only [World.drewN_drewN] using HSQ.out.drewN _⟩, ⟨by simpa only [World.drewN_drewN] using pw_below_drewN HB.out _⟩⟩
        rw [if_neg d1] at H
        by_cases d2 : hi = x16
        ·subst d2
         by_cases d4 : lo ≤ un2
         ·rw [if_pos ⟨rfl, d4⟩, Option.some.injEq] at H
          subst H
          go_wp2_with (first | (go_at_call 114; refine (bits_Mul64.calls _ _ hi lo _ HM.out).mono ?_; rintro e w' ⟨rfl, ⟨nd, rfl⟩⟩))
          go_meet
          case rel => exact ⟨rfl, ⟨by simpa only [World.drewN_drewN] using HSV.out.drewN _⟩, ⟨by simpa only [World.drewN_drewN] using HSU.out.drewN _⟩, ⟨by simpa only [World.drewN_drewN] using HSQ.out.drewN _⟩, ⟨by simpa only [World.drewN_drewN] using pw_below_drewN HB.out _⟩⟩
         rw [if_neg (fun h => d4 h.2)] at H
         by_cases d3 : IntKind.u64.wrap (hi + vn1) < hi
         ·rw [if_pos d3, Option.some.injEq] at H
          subst H
          go_wp2_with (first | (go_at_call 114; refine (bits_Mul64.calls _ _ hi lo _ HM.out).mono ?_; rintro e w' ⟨rfl, ⟨nd, rfl⟩⟩))
          go_meet
          case rel => exact ⟨rfl, ⟨by simpa only [World.drewN_drewN] using HSV.out.drewN _⟩, ⟨by simpa only [World.drewN_drewN] using HSU.out.drewN _⟩, ⟨by simpa only [World.drewN_drewN] using HSQ.out.drewN _⟩, ⟨by simpa only [World.drewN_drewN] using pw_below_drewN HB.out _⟩⟩
         rw [if_neg d3] at H
         have H := Aside0.mk H
         go_wp2_with (first | (go_at_call 114; refine (bits_Mul64.calls _ _ hi lo _ HM.out).mono ?_; rintro e w' ⟨rfl, ⟨nd, rfl⟩⟩))
         go_roundg k2
         case measure => have := HK2.out; omega
         case rel => exact ⟨_, _, rfl, rfl, H, ⟨by have := HK2.out; omega⟩, ⟨m + nd, by first | rfl | simp only [World.drewN_drewN]⟩⟩
        rw [if_neg (fun h => d2 h.1)] at H
        by_cases d3 : IntKind.u64.wrap (x16 + vn1) < x16
        ·rw [if_pos d3, Option.some.injEq] at H
         subst H
         go_wp2_with (first | (go_at_call 114; refine (bits_Mul64.calls _ _ hi lo _ HM.out).mono ?_; rintro e w' ⟨rfl, ⟨nd, rfl⟩⟩))
         go_meet
         case rel => exact ⟨rfl, ⟨by simpa only [World.drewN_drewN] using HSV.out.drewN _⟩, ⟨by simpa only [World.drewN_drewN] using HSU.out.drewN _⟩, ⟨by simpa only [World.drewN_drewN] using HSQ.out.drewN _⟩, ⟨by simpa only [World.drewN_drewN] using pw_below_drewN HB.out _⟩⟩
        rw [if_neg d3] at H
        have H := Aside0.mk H
        go_wp2_with (first | (go_at_call 114; refine (bits_Mul64.calls _ _ hi lo _ HM.out).mono ?_; rintro e w' ⟨rfl, ⟨nd, rfl⟩⟩))
        go_roundg k2
        case measure => have := HK2.out; omega
        case rel => exact ⟨_, _, rfl, rfl, H, ⟨by have := HK2.out; omega⟩, ⟨m + nd, by first | rfl | simp only [World.drewN_drewN]⟩⟩
     simp only [quo_guess, if_neg cg, Option.some.injEq] at HGS
     subst HGS
     go_wp2
     go_meet
     case rel => exact ⟨rfl, ⟨HSV.out.drewN _⟩, ⟨HSU.out.drewN _⟩, ⟨HSQ.out.drewN _⟩, ⟨pw_below_drewN HB.out _⟩⟩
    case rest =>
     obtain ⟨rfl, HSV1, HSU1, HSQ1, HB1⟩ := hcut
     clear HSV HSU HSQ HB hu0 hu1 hu2 hv0 hv1 HGS
     have hcm := cut_mid gu u.length cu j (j + (l1.length : Int) + 1) (by omega) (by omega) (by omega)
     rw [show (j + (l1.length : Int) + 1 - j).toNat = l1.length + 1 from by omega] at hcm
     have HLU' := HLU.out
     have hsa := fun W hu hv => sub_at k1 j.toNat l1.length gu (cu - j.toNat) gv cv U v pu pv g b U1 W hu hv HNE.out (by omega) (by omega) (by omega) HSB.out
     have HSA := Aside0.mk hsa
     clear hsa HLU'
     cases b with
     | true =>
      replace H := H.out
      clear HSB
      rw [if_pos rfl] at H
      obtain ⟨S1, hadd, H⟩ := Option.bind_eq_some_iff.mp H
      have HF := Aside0.mk H
      clear H
      have HAD := Aside0.mk hadd
      clear hadd
      go_wp2_with (first
       | (go_at_call 115; refine (HSA.out _ HSU1.out HSV1.out).mono ?_; rintro e w6 ⟨rfl, hl1, hs1, hk1, hb1⟩; have HL1 := Aside0.mk hl1; have HSU2 := Aside0.mk hs1; have HSV2 := Aside0.mk (HSV1.out.keep hk1 HNE.out); have HSQ2 := Aside0.mk (HSQ1.out.keep hk1 HNQ.out.2); have HB2' := Aside0.mk (HB1.out.trans (hb1.mono HGU.out)); clear hl1 hs1 hk1 hb1)
       | (go_at_call 116; refine (add_at k1 j.toNat l1.length gu (cu - j.toNat) gv cv U v pu pv U1 S1 _ HSU2.out HSV2.out HNE.out (by have := HLU.out; omega) HL1.out (by omega) (by omega) HAD.out).mono ?_; rintro e w7 ⟨rfl, hl1, hs1, hk1, hb1⟩; have HL3 := Aside0.mk hl1; have HSU3 := Aside0.mk hs1; have HSV3 := Aside0.mk (HSV2.out.keep hk1 HNE.out); have HSQ3 := Aside0.mk (HSQ2.out.keep hk1 HNQ.out.2); have HB3' := Aside0.mk (HB2'.out.trans (hb1.mono HGU.out)); have hqc := HSQ3.out.cell0 j (by omega) (by rw [HLQ.out]; omega); have hqf := HSQ3.out.free j.toNat; clear hl1 hs1 hk1 hb1))
      go_roundg k1
      case measure => have := HK1.out; omega
      case rel =>
       have hp := HSQ3.out.put0 j (IntKind.u64.wrap (g - 1)) (by omega) (by rw [HLQ.out]; omega)
       exact ⟨splice U j.toNat S1, _, _, rfl, HF, ⟨by have := HK1.out; omega⟩, ⟨by rw [splice_len _ _ _ (by rw [HL3.out]; have := HLU.out; omega)]; exact HLU.out⟩, ⟨by rw [List.length_set]; exact HLQ.out⟩, ⟨by first | exact HSV3.out.far HNQ.out.1.symm _ | exact (HSV3.out.drewN _).far HNQ.out.1.symm _⟩, ⟨by first | exact HSU3.out.far HNQ.out.2.symm _ | exact (HSU3.out.drewN _).far HNQ.out.2.symm _⟩, ⟨by first | exact hp | exact hp.drewN _⟩, ⟨by first | exact HB3'.out.setCell HGQ.out _ | exact (pw_below_drewN HB3'.out _).setCell HGQ.out _⟩⟩
     | false =>
      replace H := H.out
      clear HSB
      rw [if_neg (by simp)] at H
      have HF := Aside0.mk H
      clear H
      go_wp2_with (first
       | (go_at_call 115; refine (HSA.out _ HSU1.out HSV1.out).mono ?_; rintro e w6 ⟨rfl, hl1, hs1, hk1, hb1⟩; have HL1 := Aside0.mk hl1; have HSU2 := Aside0.mk hs1; have HSV2 := Aside0.mk (HSV1.out.keep hk1 HNE.out); have HSQ2 := Aside0.mk (HSQ1.out.keep hk1 HNQ.out.2); have HB2' := Aside0.mk (HB1.out.trans (hb1.mono HGU.out)); have hqc := HSQ2.out.cell0 j (by omega) (by rw [HLQ.out]; omega); have hqf := HSQ2.out.free j.toNat; clear hl1 hs1 hk1 hb1))
      go_roundg k1
      case measure => have := HK1.out; omega
      case rel =>
       have hp := HSQ2.out.put0 j g (by omega) (by rw [HLQ.out]; omega)
       exact ⟨splice U j.toNat U1, _, _, rfl, HF, ⟨by have := HK1.out; omega⟩, ⟨by rw [splice_len _ _ _ (by rw [HL1.out]; have := HLU.out; omega)]; exact HLU.out⟩, ⟨by rw [List.length_set]; exact HLQ.out⟩, ⟨by first | exact HSV2.out.far HNQ.out.1.symm _ | exact (HSV2.out.drewN _).far HNQ.out.1.symm _⟩, ⟨by first | exact HSU2.out.far HNQ.out.2.symm _ | exact (HSU2.out.drewN _).far HNQ.out.2.symm _⟩, ⟨by first | exact hp | exact hp.drewN _⟩, ⟨by first | exact HB2'.out.setCell HGQ.out _ | exact (pw_below_drewN HB2'.out _).setCell HGQ.out _⟩⟩
   rw [if_neg c1] at H; exact absurd H (by simp)
theorem whole_amount_quo.calls (k : Nat) (P0_ : Nat → Prop) (A0 : Option Addr) (c0 : Nat) (l0 : List Int) (A1 : Option Addr) (c1 : Nat) (l1 : List Int) (r1 r2 : List Int) (w : World) (hs0 : Kd.V (Kd.int .u64) 59 w w.heap.size (fun k_ => P0_ k_) (.slice A0 l0.length c0) l0) (hr1 : Kd.C (Kd.int .u64) w A1 l1.length l1) (hc1 : l1.length ≤ c1) (h : whole_amount_quo.f k l0 l1 = some (r1, r2)) :
  Calls Tryd.prog 92 #[.slice A0 l0.length c0, .slice A1 l1.length c1] w fun e w' => ∃ v0_ v1_ : Value, e = .returned (.tuple #[v0_, v1_]) ∧ Kd.V (Kd.int .u64) 59 w' w.heap.size (fun k_ => (P0_ k_ ∨ w.heap.size ≤ k_)) v0_ r1 ∧ Kd.V (Kd.int .u64) 59 w' w.heap.size (fun k_ => (P0_ k_ ∨ w.heap.size ≤ k_)) v1_ r2 ∧ Below w.heap.size w w' := by
 unfold whole_amount_quo.f at h
 obtain ⟨c, hc, h⟩ := Option.bind_eq_some_iff.mp h
 by_cases hlt : c < 0
 ·rw [if_pos hlt, Option.some.injEq, Prod.mk.injEq] at h
  obtain ⟨rfl, rfl⟩ := h
  exact quo_less k P0_ A0 c0 l0 A1 c1 l1 w hs0 hr1 hc1 c hc hlt
 rw [if_neg hlt] at h
 by_cases h1 : l1.length = 1
 ·rw [if_pos h1] at h
  obtain ⟨⟨q, r⟩, hq, h⟩ := Option.bind_eq_some_iff.mp h
  obtain ⟨t, ht, h⟩ := Option.bind_eq_some_iff.mp h
  rw [Option.some.injEq, Prod.mk.injEq] at h
  obtain ⟨rfl, rfl⟩ := h
  exact quo_one k P0_ A0 c0 l0 A1 c1 l1 w hs0 hr1 hc1 c _ _ r hc hlt h1 hq ht
 rw [if_neg h1] at h
 by_cases h2 : l1.length < l0.length + 1 ∧ 2 ≤ l1.length ∧ l0.length < 17592186044416
 ·rw [if_pos h2] at h
  obtain ⟨s, hs, h⟩ := Option.bind_eq_some_iff.mp h
  by_cases h3 : 0 ≤ s ∧ s ≤ 64
  ·rw [if_pos h3] at h
   obtain ⟨v, hv, h⟩ := Option.bind_eq_some_iff.mp h
   obtain ⟨u, hu, h⟩ := Option.bind_eq_some_iff.mp h
   by_cases h4 : l1.length ≤ v.length ∧ l1.length ≤ u.length
   ·rw [if_pos h4] at h
    obtain ⟨⟨rU, rQ⟩, hg, h⟩ := Option.bind_eq_some_iff.mp h
    obtain ⟨q, hq, h⟩ := Option.bind_eq_some_iff.mp h
    obtain ⟨r0, hr0, h⟩ := Option.bind_eq_some_iff.mp h
    obtain ⟨r, hr, h⟩ := Option.bind_eq_some_iff.mp h
    rw [Option.some.injEq, Prod.mk.injEq] at h
    obtain ⟨rfl, rfl⟩ := h
    exact quo_more k P0_ A0 c0 l0 A1 c1 l1 w hs0 hr1 hc1 c s v u rU rQ _ r0 _ hc hlt h1 h2.1 h2.2.1 h2.2.2 hs h3.1 h3.2 hv hu h4.1 h4.2 hg hq hr0 hr
   rw [if_neg h4] at h; cases h
  rw [if_neg h3] at h; cases h
 rw [if_neg h2] at h; cases h
end Go.Proofs.YtodhkpdcpneeeaaDoor.Mine
namespace Go.Proofs.YtodhkpdcpneeeaaDoor.Mine
open Go Go.RowKit Go.Proofs.YtodhkpdcpneeeaaDoorW.PrintWords Go.Proofs.YtodhkpdcpneeeaaDoorW.PrintLast Go.Proofs.YtodhkpdcpneeeaaDoorW.PrintMore
abbrev Bx := Nat × Array Value × TypeId
structure Keep (w : World) (bs : List Bx) (vs : List (Value × List Int)) (W : World) : Prop where
 below : Below w.heap.size w W
 blk : ∀ b ∈ bs, w.heap.size ≤ b.1 ∧ W.heap[b.1]? = some (.cells b.2.1 b.2.2 (0, 0))
 nod : (bs.map (·.1)).Nodup
 val : ∀ v ∈ vs, Kd.V (Kd.int .u64) 59 W 0 (fun k => ∀ b ∈ bs, k ≠ b.1) v.1 v.2
namespace Keep
variable {w W W' : World} {bs bs' : List Bx} {vs vs' : List (Value × List Int)} {g : Nat} {cs : Array Value} {t : TypeId} {v : Value} {xs : List Int}
theorem refl (w : World) : Keep w [] [] w := ⟨Below.refl _ _, fun _ h => absurd h (by simp), List.nodup_nil, fun _ h => absurd h (by simp)⟩
theorem up (K : Keep w bs vs W) (hb : Below W.heap.size W W') : Keep w bs vs W' :=
 ⟨K.below.trans (hb.mono K.below.size), fun b h => ⟨(K.blk b h).1, blk_below (K.blk b h).2 hb⟩, K.nod, fun v h => Kd.V_below (K.val v h) hb⟩
theorem u [u : UpO W W'] (K : Keep w bs vs W) : Keep w bs vs W' := K.up u.below
theorem add (K : Keep w bs vs W) {base : Nat} {ok : Nat → Prop} (hb : Below W.heap.size W W') (ho : Kd.V (Kd.int .u64) 59 W' base (fun k => ok k ∨ W.heap.size ≤ k) v xs) (hok : ∀ k, ok k → k < w.heap.size ∨ ∀ b ∈ bs, k ≠ b.1) : Keep w bs ((v, xs) :: vs) W' := by
 have K' := K.up hb
 refine ⟨K'.below, K'.blk, K'.nod, fun x hx => ?_⟩
 rcases List.mem_cons.1 hx with rfl | hx
 ·refine Kd.V_lower (Kd.V_mono ho fun k hk b hbm => ?_) (Nat.zero_le _)
  have h1 := K.blk b hbm
  have h2 := blk_lt h1.2
  rcases hk with hk | hk
  ·rcases hok k hk with h | h
   ·omega
   exact h b hbm
  omega
 exact K'.val x hx
theorem heap (K : Keep w bs vs W) (n : Nat) (hn : bs[n]? = some (g, cs, t)) : W.heap[g]? = some (.cells cs t (0, 0)) := (K.blk _ (List.mem_of_getElem? hn)).2
theorem V (K : Keep w bs vs W) (n : Nat) (hn : vs[n]? = some (v, xs)) : Kd.V (Kd.int .u64) 59 W W.heap.size (fun k => ∀ b ∈ bs, k ≠ b.1) v xs := K.val _ (List.mem_of_getElem? hn)
theorem slice (K : Keep w bs vs W) (n : Nat) (hn : vs[n]? = some (v, xs)) : ∃ A c, v = .slice A xs.length c := Kd.V_slice (K.V n hn)
theorem C (K : Keep w bs vs W) (n : Nat) {A : Option Addr} {c : Nat} (hn : vs[n]? = some (.slice A xs.length c, xs)) : Kd.C (Kd.int .u64) W A xs.length xs := (Kd.V_reads' (K.V n hn)).2.2
end Keep
theorem bindA {α β : Type} {o : Option α} {f : α → Option β} {r : β} (h : o.bind f = some r) : ∃ a, Aside0 (o = some a) ∧ f a = some r := by
 obtain ⟨a, h1, h2⟩ := Option.bind_eq_some_iff.mp h
 exact ⟨a, ⟨h1⟩, h2⟩
theorem kls : (∀ l : List Bx, [] ++ l = l) ∧ (∀ (x : Bx) (l m : List Bx), x :: l ++ m = x :: (l ++ m)) ∧ (∀ (xs : List Bx) (x a : Bx), (x :: xs).set 0 a = a :: xs) ∧ (∀ (xs : List Bx) (x a : Bx) (i : Nat), (x :: xs).set (i + 1) a = x :: xs.set i a) :=
 ⟨fun _ => rfl, fun _ _ _ => rfl, fun _ _ _ => rfl, fun _ _ _ _ => rfl⟩
section
variable {P : Program} {ops : Array Oper} {Q : Exit → Act → World → Prop} {md : Region.Mode} {S : World → Prop} {ds : List Nat}
theorem kbx {o : Oper} {a : Act} {W : World} {Kc : Act → World → Prop} (cs : Array Value) (t : TypeId) (N : Tmp)
  (h : ∀ g, g = W.heap.size → ∀ w1, w1.heap[g]? = some (.cells cs t (0, 0)) → Below W.heap.size W w1 → Kc (a.put o.dst (.pointer (some ⟨g, 0, none⟩))) w1)
  (hg : Region.wanted o (yielded ops a.tmps) = true := by rfl) (hd : o.dst = some N := by rfl) (hr : (execOp a.eval o).run P W = .ok (.value (.pointer (some ⟨W.heap.size, 0, none⟩))) (W.alloc (.cells cs t (0, 0))) := by first | (go_simp; done) | (go_simp; rfl)) : if Region.wanted o (yielded ops a.tmps) = true then Oper.wp P o a W Kc Q else Kc (a.put o.dst undef) W :=
 box_step hg hd hr h
theorem knq {fuel : Nat} {l : Array Bool} {a a' : Act} {w : World} (h : wpAnyLast P md ops Q S ds fuel l a' w) (ha : a = a' := by first | (simp only [putAll, Act.put, kss, i64_w, i32_w]; done) | (simp only [putAll, Act.put, kss, i64_w, i32_w]; rfl) | rfl) : wpAnyLast P md ops Q S ds fuel l a w := norm_ ha h
end
end Go.Proofs.YtodhkpdcpneeeaaDoor.Mine
namespace Go.Proofs.YtodhkpdcpneeeaaDoor.Mine
open Go Go.RowKit Go.Proofs.YtodhkpdcpneeeaaDoorW.PrintWords Go.Proofs.YtodhkpdcpneeeaaDoorW.PrintLast Go.Proofs.YtodhkpdcpneeeaaDoorW.PrintMore
structure KV where
 {α : Type}
 kd : Kd α
 e : TypeId
 v : Value
 xs : List α
 ok : Nat → Prop
def KOk (n : Nat) (bs : List Bx) (ok : Nat → Prop) (k : Nat) : Prop := (ok k ∨ n ≤ k) ∧ ∀ b ∈ bs, k ≠ b.1
structure Kp (w : World) (bs : List Bx) (vs os : List KV) (W : World) : Prop where
 below : Below w.heap.size w W
 blk : ∀ b ∈ bs, w.heap.size ≤ b.1 ∧ W.heap[b.1]? = some (.cells b.2.1 b.2.2 (0, 0))
 nod : (bs.map (·.1)).Nodup
 val : ∀ v ∈ vs, Kd.V v.kd v.e W 0 (KOk w.heap.size bs v.ok) v.v v.xs
 own : ∀ v ∈ os, v.kd.R v.e W w.heap.size (fun k => ∀ b ∈ bs, k ≠ b.1) v.v v.xs
 sep : os.Pairwise fun a b => ∀ k, a.v.ownBlock = some k → b.v.ownBlock ≠ some k
theorem mem_insI {α : Type _} {a b : α} : ∀ {l : List α} {i : Nat}, a ∈ l.insertIdx i b → a = b ∨ a ∈ l := fun {l i} h => by
 by_cases hi : i ≤ l.length
 ·exact (List.mem_insertIdx hi).1 h
 exact .inr (by rwa [List.insertIdx_of_length_lt (by omega)] at h)
namespace Kp
variable {w W W' : World} {bs bs' : List Bx} {vs vs' os os' : List KV} {g : Nat} {cs : Array Value} {t : TypeId}
theorem refl (w : World) : Kp w [] [] [] w := ⟨Below.refl _ _, fun _ h => absurd h (by simp), List.nodup_nil, fun _ h => absurd h (by simp), fun _ h => absurd h (by simp), List.Pairwise.nil⟩
theorem parV {α : Type} {kd : Kd α} {e base : Nat} {v : Value} {xs : List α} {P : Nat → Prop} (K : Kp w [] vs os w) (h : Kd.V kd e w base P v xs) : Kp w [] (vs ++ [⟨kd, e, v, xs, P⟩]) os w :=
 ⟨K.below, K.blk, K.nod, fun x hx => by
  rcases List.mem_append.1 hx with hx | hx
  ·exact K.val x hx
  obtain rfl := List.mem_singleton.1 hx
  exact Kd.V_lower (Kd.V_mono h fun k hk => ⟨.inl hk, fun b hb => absurd hb (by simp)⟩) (Nat.zero_le _), K.own, K.sep⟩
theorem up (K : Kp w bs vs os W) (hb : Below W.heap.size W W') : Kp w bs vs os W' :=
 ⟨K.below.trans (hb.mono K.below.size), fun b h => ⟨(K.blk b h).1, blk_below (K.blk b h).2 hb⟩, K.nod, fun v h => Kd.V_below (K.val v h) hb, fun v h => Kd.R_below (K.own v h) hb, K.sep⟩
theorem u [u : UpO W W'] (K : Kp w bs vs os W) : Kp w bs vs os W' := K.up u.below
theorem perm (K : Kp w bs vs os W) (hp : bs.Perm bs') : Kp w bs' vs os W :=
 ⟨K.below, fun b h => K.blk b (hp.mem_iff.2 h), (hp.map _).nodup_iff.1 K.nod, fun v h => Kd.V_mono (K.val v h) fun _ hk => ⟨hk.1, fun b hb => hk.2 b (hp.mem_iff.2 hb)⟩, fun v h => Kd.R_mono (K.own v h) fun _ hk b hb => hk b (hp.mem_iff.2 hb), K.sep⟩
theorem box (K : Kp w bs vs os W) (hg : g = W.heap.size) (hx : W'.heap[g]? = some (.cells cs t (0, 0))) (hb : Below W.heap.size W W') : Kp w (bs ++ [(g, cs, t)]) vs os W' := by
 have K' := K.up hb
 refine ⟨K'.below, fun b h => ?_, ?_, fun v h => ?_, fun v h => ?_, K.sep⟩
 ·rcases List.mem_append.1 h with h | h
  ·exact K'.blk b h
  obtain rfl := List.mem_singleton.1 h
  exact ⟨by rw [hg]; exact below_size K.below, hx⟩
 ·rw [List.map_append, List.nodup_append]
  refine ⟨K.nod, by simp, fun a ha b hb' => ?_⟩
  obtain rfl : b = g := by simpa using hb'
  obtain ⟨c, hc, rfl⟩ := List.mem_map.1 ha
  have := blk_lt (K.blk c hc).2
  omega
 ·refine Kd.V_mono (Kd.V_below (Kd.V_elderB (K.val v h) g (Nat.le_of_eq hg.symm)) hb) fun k hk => ⟨hk.1.1, fun b hbm => ?_⟩
  rcases List.mem_append.1 hbm with hm | hm
  ·exact hk.1.2 b hm
  obtain rfl := List.mem_singleton.1 hm
  exact hk.2
 refine Kd.R_mono (Kd.R_below (Kd.R_elderB (K.own v h) g (Nat.le_of_eq hg.symm)) hb) fun k hk b hbm => ?_
 rcases List.mem_append.1 hbm with hm | hm
 ·exact hk.1 b hm
 obtain rfl := List.mem_singleton.1 hm
 exact hk.2
theorem boxI {l : List Bx} (i : Nat) (K : Kp w (bs ++ l) vs os W) (hi : i ≤ l.length) (hg : g = W.heap.size) (hx : W'.heap[g]? = some (.cells cs t (0, 0))) (hb : Below W.heap.size W W') : Kp w (bs ++ l.insertIdx i (g, cs, t)) vs os W' := by
 refine (K.box hg hx hb).perm ?_
 rw [List.append_assoc]
 refine List.Perm.append_left _ (List.Perm.trans ?_ (List.perm_insertIdx (g, cs, t) l hi).symm)
 exact List.perm_append_comm (l₂ := [(g, cs, t)])
theorem out (K : Kp w bs vs os W) {k : Nat} (h : W.heap.size ≤ k) (ok : Nat → Prop) : KOk w.heap.size bs ok k :=
 ⟨.inr (Nat.le_trans (below_size K.below) h), fun b hb e => by have := blk_lt (K.blk b hb).2; omega⟩
theorem add {α : Type} {kd : Kd α} {e base : Nat} {v : Value} {xs : List α} {ok : Nat → Prop} (okn : Nat → Prop) (K : Kp w bs vs os W) (hb : Below W.heap.size W W') (ho : Kd.V kd e W' base (fun k => ok k ∨ W.heap.size ≤ k) v xs) (hok : ∀ k, ok k → KOk w.heap.size bs okn k) : Kp w bs (vs ++ [⟨kd, e, v, xs, okn⟩]) os W' := by
 have K' := K.up hb
 refine ⟨K'.below, K'.blk, K'.nod, fun x hx => ?_, K'.own, K'.sep⟩
 rcases List.mem_append.1 hx with hx | hx
 ·exact K'.val x hx
 obtain rfl := List.mem_singleton.1 hx
 exact Kd.V_lower (Kd.V_mono ho fun k hk => hk.elim (hok k) fun h => K.out h okn) (Nat.zero_le _)
theorem addR2 {α β : Type} {kd : Kd α} {kd2 : Kd β} {e e2 : Nat} {v v2 : Value} {xs : List α} {xs2 : List β} (K : Kp w bs vs os W) (hb : Below W.heap.size W W') (ho : kd.R e W' W.heap.size (fun k => some k ≠ v2.ownBlock) v xs) (ho2 : kd2.R e2 W' W.heap.size (fun k => some k ≠ v.ownBlock) v2 xs2) :
  Kp w bs (vs ++ [⟨kd, e, v, xs, fun _ => False⟩] ++ [⟨kd2, e2, v2, xs2, fun _ => False⟩]) (os ++ [⟨kd, e, v, xs, fun _ => True⟩] ++ [⟨kd2, e2, v2, xs2, fun _ => True⟩]) W' := by
 have K1 := K.add (base := 0) (ok := fun _ => False) (fun _ => False) hb (Kd.V_mono (Kd.R_V (Kd.R_bound ho)) fun k hk => .inr hk.2.1) (fun k h => h.elim)
 have K2 := K.add (base := 0) (ok := fun _ => False) (fun _ => False) hb (Kd.V_mono (Kd.R_V (Kd.R_bound ho2)) fun k hk => .inr hk.2.1) (fun k h => h.elim)
 have K' := K.up hb
 have hk1 : ∀ k, W.heap.size ≤ k → ∀ b ∈ bs, k ≠ b.1 := fun k hk b hb e => by have := blk_lt (K.blk b hb).2; omega
 refine ⟨K'.below, K'.blk, K'.nod, fun x hx => ?_, fun x hx => ?_, ?_⟩
 ·rcases List.mem_append.1 hx with hx | hx
  ·exact K1.val x hx
  exact K2.val x (List.mem_append_right _ hx)
 ·rcases List.mem_append.1 hx with hx | hx
  ·rcases List.mem_append.1 hx with hx | hx
   ·exact K'.own x hx
   obtain rfl := List.mem_singleton.1 hx
   exact Kd.R_lower (Kd.R_mono (Kd.R_bound ho) fun k hk => hk1 k hk.2.1) (below_size K.below)
  obtain rfl := List.mem_singleton.1 hx
  exact Kd.R_lower (Kd.R_mono (Kd.R_bound ho2) fun k hk => hk1 k hk.2.1) (below_size K.below)
 rw [List.pairwise_append, List.pairwise_append]
 refine ⟨⟨K.sep, List.pairwise_singleton _ _, fun a ha b hb' k h1 h2 => ?_⟩, List.pairwise_singleton _ _, fun a ha b hb' k h1 h2 => ?_⟩
 ·obtain rfl := List.mem_singleton.1 hb'
  have g1 := Kd.R_base ho k h2
  have g2 := Kd.R_lt (K.own a ha) k h1
  omega
 obtain rfl := List.mem_singleton.1 hb'
 rcases List.mem_append.1 ha with ha | ha
 ·have g1 := Kd.R_base ho2 k h2
  have g2 := Kd.R_lt (K.own a ha) k h1
  omega
 obtain rfl := List.mem_singleton.1 ha
 exact ho.1 k h1 h2.symm
theorem put (K : Kp w bs vs os W) (n : Nat) (hn : bs[n]? = some (g, cs, t)) (i : Nat) (x : Value) (e : bs.set n (g, cs.setIfInBounds i x, t) = bs') : Kp w bs' vs os (W.setCell ⟨g, i, none⟩ x) := by
 subst e
 have hm := List.mem_of_getElem? hn
 have hlt : n < bs.length := (List.getElem?_eq_some_iff.1 hn).1
 have hmap : (bs.set n (g, cs.setIfInBounds i x, t)).map (·.1) = bs.map (·.1) := by
  rw [List.map_set]
  refine List.ext_getElem? fun j => ?_
  rw [List.getElem?_set]
  by_cases hj : n = j
  ·subst hj
   simp [hn]
   exact hlt
  rw [if_neg hj]
 have hge := (K.blk _ hm).1
 have hmem : ∀ k, (∀ b ∈ bs, k ≠ b.1) ↔ ∀ b ∈ bs.set n (g, cs.setIfInBounds i x, t), k ≠ b.1 := fun k => by
  have h1 : ∀ l : List Bx, (∀ b ∈ l, k ≠ b.1) ↔ k ∉ l.map (·.1) := fun l => ⟨fun h hm => by obtain ⟨b, hb, e⟩ := List.mem_map.1 hm; exact h b hb e.symm, fun h b hb e => h (List.mem_map.2 ⟨b, hb, e.symm⟩)⟩
  rw [h1, h1, hmap]
 refine ⟨below_set K.below hge, fun b hb => ?_, by rw [hmap]; exact K.nod, fun v hv => Kd.V_mono (Kd.V_far (p := ⟨g, i, none⟩) (K.val v hv) (fun k hk => hk.2 _ hm) x) fun k hk => ⟨hk.1, (hmem k).1 hk.2⟩, fun v hv => Kd.R_mono (Kd.R_far (p := ⟨g, i, none⟩) (K.own v hv) (fun k hk => hk _ hm) x) fun k hk => (hmem k).1 hk, K.sep⟩
 obtain ⟨j, hj⟩ := List.getElem?_of_mem hb
 rw [List.getElem?_set] at hj
 by_cases hnj : n = j
 ·subst hnj
  rw [if_pos rfl, if_pos hlt] at hj
  obtain rfl := Option.some.inj hj
  exact ⟨hge, blk_put (K.blk _ hm).2 i x rfl⟩
 rw [if_neg hnj] at hj
 have hb' := List.mem_of_getElem? hj
 have hne : b.1 ≠ g := fun e => hnj (by
  have h1 : (bs.map (·.1))[n]? = some g := by rw [List.getElem?_map, hn]; rfl
  have h2 : (bs.map (·.1))[j]? = some g := by rw [List.getElem?_map, hj, ← e]; rfl
  exact (List.getElem?_inj (by simpa using hlt) K.nod).1 (h1.trans h2.symm))
 exact ⟨(K.blk b hb').1, blk_far (K.blk b hb').2 (p := ⟨g, i, none⟩) hne x⟩
theorem heap (K : Kp w bs vs os W) (n : Nat) (hn : bs[n]? = some (g, cs, t)) : W.heap[g]? = some (.cells cs t (0, 0)) := (K.blk _ (List.mem_of_getElem? hn)).2
theorem cell (K : Kp w bs vs os W) (n : Nat) (hn : bs[n]? = some (g, cs, t)) (i : Nat) {x : Value} (hx : cs[i]? = some x) : W.cell? ⟨g, i, none⟩ = some x := (blk_cell (K.heap n hn) i).trans hx
theorem fz (K : Kp w bs vs os W) (n : Nat) (hn : bs[n]? = some (g, cs, t)) (i : Nat) : W.frozen? ⟨g, i, none⟩ = false := blk_frozen (K.heap n hn) i
section
variable {α : Type} {kd : Kd α} {e : Nat} {v : Value} {xs : List α} {ok : Nat → Prop}
theorem V (K : Kp w bs vs os W) (n : Nat) (hn : vs[n]? = some ⟨kd, e, v, xs, ok⟩) : Kd.V kd e W W.heap.size (KOk w.heap.size bs ok) v xs := K.val _ (List.mem_of_getElem? hn)
theorem slice (K : Kp w bs vs os W) (n : Nat) (hn : vs[n]? = some ⟨kd, e, v, xs, ok⟩) : ∃ A c, v = .slice A xs.length c := Kd.V_slice (K.V n hn)
theorem C (K : Kp w bs vs os W) (n : Nat) {A : Option Addr} {c : Nat} (hn : vs[n]? = some ⟨kd, e, .slice A xs.length c, xs, ok⟩) : Kd.C kd W A xs.length xs := (Kd.V_reads' (K.V n hn)).2.2
theorem le (K : Kp w bs vs os W) (n : Nat) {A : Option Addr} {c : Nat} (hn : vs[n]? = some ⟨kd, e, .slice A xs.length c, xs, ok⟩) : xs.length ≤ c := (Kd.V_reads' (K.V n hn)).2.1
theorem hand (K : Kp w bs vs os W) (n : Nat) (hn : vs[n]? = some ⟨kd, e, v, xs, ok⟩) {P : Nat → Prop} (hP : ∀ k, ok k ∨ w.heap.size ≤ k → P k) : Kd.V kd e W w.heap.size P v xs := Kd.V_mono (K.V n hn) fun k hk => hP k hk.1
theorem R (K : Kp w bs vs os W) (n : Nat) (hn : os[n]? = some ⟨kd, e, v, xs, ok⟩) : kd.R e W w.heap.size (fun _ => True) v xs := Kd.R_mono (K.own _ (List.mem_of_getElem? hn)) fun _ _ => trivial
theorem Rne (K : Kp w bs vs os W) (n : Nat) (hE : kd.E = []) (hn : os[n]? = some ⟨kd, e, v, xs, ok⟩) {P : Nat → Prop} (hP : ∀ k, v.ownBlock = some k → P k) : kd.R e W w.heap.size P v xs := Kd.R_reok hE (K.own _ (List.mem_of_getElem? hn)) hP
theorem apart (K : Kp w bs vs os W) (n m : Nat) {β : Type} {kd2 : Kd β} {e2 : Nat} {v2 : Value} {ys : List β} {ok2 : Nat → Prop} (hn : os[n]? = some ⟨kd, e, v, xs, ok⟩) (hm : os[m]? = some ⟨kd2, e2, v2, ys, ok2⟩) (hne : n ≠ m) : ∀ k, v.ownBlock = some k → some k ≠ v2.ownBlock := by
 intro k h1 h2
 obtain ⟨ln, en⟩ := List.getElem?_eq_some_iff.1 hn
 obtain ⟨lm, em⟩ := List.getElem?_eq_some_iff.1 hm
 have hs := List.pairwise_iff_getElem.1 K.sep
 rcases Nat.lt_or_gt_of_ne hne with h | h
 ·have := hs n m ln lm h k (by rw [en]; exact h1)
  rw [em] at this
  exact this h2.symm
 have := hs m n lm ln h k (by rw [em]; exact h2.symm)
 rw [en] at this
 exact this h1
end
end Kp
theorem mem_appI {α : Type _} {a b : α} {l m : List α} {i : Nat} (h : a ∈ m ++ l.insertIdx i b) : a = b ∨ a ∈ m ++ l := by
 rcases List.mem_append.1 h with h | h
 ·exact .inr (List.mem_append_left _ h)
 exact (mem_insI h).imp_right (List.mem_append_right _)
theorem perm_appI {α : Type _} {b : α} {l m : List α} {i : Nat} (hi : i ≤ l.length) : (m ++ l.insertIdx i b).Perm (b :: (m ++ l)) :=
 ((List.perm_insertIdx b l hi).append_left m).trans List.perm_middle
namespace Kp
variable {w W W' : World} {bs : List Bx} {vs vs' os l l' : List KV}
theorem addI {α : Type} {kd : Kd α} {e base : Nat} {v : Value} {xs : List α} {ok : Nat → Prop} (i : Nat) (okn : Nat → Prop) (K : Kp w bs (vs ++ l) os W) (hb : Below W.heap.size W W') (ho : Kd.V kd e W' base (fun k => ok k ∨ W.heap.size ≤ k) v xs) (hok : ∀ k, ok k → KOk w.heap.size bs okn k) : Kp w bs (vs ++ l.insertIdx i ⟨kd, e, v, xs, okn⟩) os W' := by
 have K' := K.up hb
 refine ⟨K'.below, K'.blk, K'.nod, fun x hx => ?_, K'.own, K'.sep⟩
 rcases mem_appI hx with rfl | hx
 ·exact Kd.V_lower (Kd.V_mono ho fun k hk => hk.elim (hok k) fun h => K.out h okn) (Nat.zero_le _)
 exact K'.val x hx
theorem addFI {α : Type} {kd : Kd α} {e base : Nat} {v : Value} {xs : List α} (i : Nat) (okn : Nat → Prop) (K : Kp w bs (vs ++ l) os W) (hb : Below W.heap.size W W') (ho : Kd.V kd e W' base (fun k => W.heap.size ≤ k) v xs) : Kp w bs (vs ++ l.insertIdx i ⟨kd, e, v, xs, okn⟩) os W' :=
 K.addI (ok := fun _ => False) i okn hb (Kd.V_mono ho fun _ h => .inr h) fun _ h => h.elim
theorem moreI {α : Type} {kd : Kd α} {e base : Nat} {v : Value} {xs : List α} {ok : Nat → Prop} (i : Nat) (okn : Nat → Prop) (K : Kp w bs vs' os W) (K2 : Kp w bs (vs ++ l) os W') (ho : Kd.V kd e W' base (fun k => ok k ∨ W.heap.size ≤ k) v xs) (hok : ∀ k, ok k → KOk w.heap.size bs okn k) : Kp w bs (vs ++ l.insertIdx i ⟨kd, e, v, xs, okn⟩) os W' := by
 refine ⟨K2.below, K2.blk, K2.nod, fun x hx => ?_, K2.own, K2.sep⟩
 rcases mem_appI hx with rfl | hx
 ·exact Kd.V_lower (Kd.V_mono ho fun k hk => hk.elim (hok k) fun h => K.out h okn) (Nat.zero_le _)
 exact K2.val x hx
theorem ownI {α : Type} {kd : Kd α} {e : Nat} {v : Value} {xs : List α} {ok : Nat → Prop} (i : Nat) (K : Kp w bs vs (os ++ l) W) (hb : Below W.heap.size W W') (ho : kd.R e W' W.heap.size ok v xs) (hi : i ≤ l.length) : Kp w bs vs (os ++ l.insertIdx i ⟨kd, e, v, xs, fun _ => True⟩) W' := by
 have K' := K.up hb
 have hk1 : ∀ k, W.heap.size ≤ k → ∀ b ∈ bs, k ≠ b.1 := fun k hk b hb e => by have := blk_lt (K.blk b hb).2; omega
 refine ⟨K'.below, K'.blk, K'.nod, K'.val, fun x hx => ?_, ?_⟩
 ·rcases mem_appI hx with rfl | hx
  ·exact Kd.R_lower (Kd.R_mono (Kd.R_bound ho) fun k hk => hk1 k hk.2.1) (below_size K.below)
  exact K'.own x hx
 refine ((perm_appI hi).symm.pairwise_iff (fun {_ _} h k h1 h2 => h k h2 h1)).1 (List.pairwise_cons.2 ⟨fun b hbm k h1 h2 => ?_, K.sep⟩)
 have g1 := Kd.R_base ho k h1
 have g2 := Kd.R_lt (K.own b hbm) k h2
 omega
theorem addRI {α : Type} {kd : Kd α} {e : Nat} {v : Value} {xs : List α} {ok : Nat → Prop} (j i : Nat) (K : Kp w bs (vs ++ l) (os ++ l') W) (hb : Below W.heap.size W W') (ho : kd.R e W' W.heap.size ok v xs) (hi : i ≤ l'.length) : Kp w bs (vs ++ l.insertIdx j ⟨kd, e, v, xs, fun _ => False⟩) (os ++ l'.insertIdx i ⟨kd, e, v, xs, fun _ => True⟩) W' := by
 have K1 := K.addFI (base := 0) j (fun _ => False) hb (Kd.V_mono (Kd.R_V (Kd.R_bound ho)) fun k hk => hk.2.1)
 have K2 := K.ownI i hb ho hi
 exact ⟨K2.below, K2.blk, K2.nod, K1.val, K2.own, K2.sep⟩
theorem addRE {α : Type} {kd : Kd α} {e : Nat} {v : Value} {xs : List α} {ok : Nat → Prop} (K : Kp w bs vs os W) (hb : Below W.heap.size W W') (ho : kd.R e W' W.heap.size ok v xs) : Kp w bs (vs ++ [⟨kd, e, v, xs, fun _ => False⟩]) (os ++ [⟨kd, e, v, xs, fun _ => True⟩]) W' := by
 have K0 : Kp w bs (vs ++ []) (os ++ []) W := by simpa using K
 exact K0.addRI 0 0 hb ho (Nat.le_refl _)
end Kp
theorem KOk.t {n k : Nat} {bs : List Bx} {ok : Nat → Prop} (h : KOk n bs ok k) : KOk n bs (fun _ => True) k := ⟨.inl trivial, h.2⟩
theorem KOk.l {n k : Nat} {bs : List Bx} {ok ok2 : Nat → Prop} (h : KOk n bs ok k) : KOk n bs (fun k => ok k ∨ ok2 k) k := ⟨h.1.elim (fun h => .inl (.inl h)) .inr, h.2⟩
theorem KOk.r {n k : Nat} {bs : List Bx} {ok ok2 : Nat → Prop} (h : KOk n bs ok2 k) : KOk n bs (fun k => ok k ∨ ok2 k) k := ⟨h.1.elim (fun h => .inl (.inr h)) .inr, h.2⟩
namespace Kp
variable {w W W' : World} {bs bs' : List Bx} {vs vs' os os' : List KV} {g : Nat} {cs : Array Value} {t : TypeId}
theorem addF {α : Type} {kd : Kd α} {e base : Nat} {v : Value} {xs : List α} (okn : Nat → Prop) (K : Kp w bs vs os W) (hb : Below W.heap.size W W') (ho : Kd.V kd e W' base (fun k => W.heap.size ≤ k) v xs) : Kp w bs (vs ++ [⟨kd, e, v, xs, okn⟩]) os W' :=
 K.add (ok := fun _ => False) okn hb (Kd.V_mono ho fun _ h => .inr h) fun _ h => h.elim
theorem more {α : Type} {kd : Kd α} {e base : Nat} {v : Value} {xs : List α} {ok : Nat → Prop} (okn : Nat → Prop) (K : Kp w bs vs os W) (K2 : Kp w bs vs' os W') (ho : Kd.V kd e W' base (fun k => ok k ∨ W.heap.size ≤ k) v xs) (hok : ∀ k, ok k → KOk w.heap.size bs okn k) : Kp w bs (vs' ++ [⟨kd, e, v, xs, okn⟩]) os W' := by
 refine ⟨K2.below, K2.blk, K2.nod, fun x hx => ?_, K2.own, K2.sep⟩
 rcases List.mem_append.1 hx with hx | hx
 ·exact K2.val x hx
 obtain rfl := List.mem_singleton.1 hx
 exact Kd.V_lower (Kd.V_mono ho fun k hk => hk.elim (hok k) fun h => K.out h okn) (Nat.zero_le _)
theorem moreF {α : Type} {kd : Kd α} {e base : Nat} {v : Value} {xs : List α} (okn : Nat → Prop) (K : Kp w bs vs os W) (K2 : Kp w bs vs' os W') (ho : Kd.V kd e W' base (fun k => W.heap.size ≤ k) v xs) : Kp w bs (vs' ++ [⟨kd, e, v, xs, okn⟩]) os W' :=
 K.more (ok := fun _ => False) okn K2 (Kd.V_mono ho fun _ h => .inr h) fun _ h => h.elim
theorem cell2 (K : Kp w bs vs os W) (n : Nat) {x y : Value} (hn : bs[n]? = some (g, #[x, y], t)) : W.cell? ⟨g, 0, none⟩ = some x ∧ W.cell? ⟨g, 1, none⟩ = some y := ⟨K.cell n hn 0 rfl, K.cell n hn 1 rfl⟩
theorem abs (K : Kp w bs vs os W) : ∃ B V O, Aside0 (B = bs) ∧ Aside0 (V = vs) ∧ Aside0 (O = os) ∧ Kp w (B ++ []) (V ++ []) (O ++ []) W := ⟨bs, vs, os, ⟨rfl⟩, ⟨rfl⟩, ⟨rfl⟩, by simpa using K⟩
theorem put2 (K : Kp w bs vs os W) (n : Nat) {x y : Value} (x' y' : Value) (hn : bs[n]? = some (g, #[x, y], t)) : Kp w (bs.set n (g, #[x', y'], t)) vs os ((W.setCell ⟨g, 0, none⟩ x').setCell ⟨g, 1, none⟩ y') := by
 have hlt : n < bs.length := (List.getElem?_eq_some_iff.1 hn).1
 have K1 := K.put n hn 0 x' rfl
 have K2 := K1.put n (g := g) (cs := #[x', y]) (t := t) (by rw [List.getElem?_set_self hlt]; rfl) 1 y' rfl
 rw [List.set_set] at K2
 exact K2
end Kp
section
variable {P : Program} {ops : Array Oper} {Q : Exit → Act → World → Prop} {rest : List Oper} {o : Oper} {a : Act} {w W : World} {bs vs os} {g t : Nat} {a0 b0 : Value} {md : Region.Mode} {S : World → Prop} {ds : List Nat}
theorem kst2 (n : Nat) (x y : Value) (K : Kp w bs vs os W) (hn : bs[n]? = some (g, #[a0, b0], t))
  (hrun : W.cell? ⟨g, 0, none⟩ = some a0 → W.cell? ⟨g, 1, none⟩ = some b0 → W.frozen? ⟨g, 0, none⟩ = false → W.frozen? ⟨g, 1, none⟩ = false → (execOp a.eval o).run P W = .ok .skip ((W.setCell ⟨g, 0, none⟩ x).setCell ⟨g, 1, none⟩ y))
  (h : ∀ W1, Kp w (bs.set n (g, #[x, y], t)) vs os W1 → wpList P ops Q rest a W1) (hd : o.dst = none := by rfl) (hgd : o.guard = none := by rfl) : wpList P ops Q (o :: rest) a W :=
 wpList_plain hgd fun K' hK => by
  have c := K.cell2 n hn
  unfold Oper.wp
  rw [hrun c.1 c.2 (K.fz n hn 0) (K.fz n hn 1)]
  show K' (a.put o.dst undef) _
  rw [hd]
  exact hK _ _ (h _ (K.put2 n x y hn))
theorem klast2 {i : Nat} {oi : Oper} {fuel : Nat} {l : Array Bool} (l' : Array Bool) (n : Nat) (x y : Value) (K : Kp w bs vs os W) (hn : bs[n]? = some (g, #[a0, b0], t)) (hi : ops[i]? = some oi) (hN : oi.dst = none) (hc : readyB md ops l l' i = true) (hd : i ∈ ds) (hw : Region.wanted oi (yielded ops a.tmps) = true)
  (hrun : W.cell? ⟨g, 0, none⟩ = some a0 → W.cell? ⟨g, 1, none⟩ = some b0 → W.frozen? ⟨g, 0, none⟩ = false → W.frozen? ⟨g, 1, none⟩ = false → (execOp a.eval oi).run P W = .ok .skip ((W.setCell ⟨g, 0, none⟩ x).setCell ⟨g, 1, none⟩ y))
  (h : ∀ W1, Kp w (bs.set n (g, #[x, y], t)) vs os W1 → wpAnyLast P md ops Q S ds fuel l' a W1) : wpAnyLast P md ops Q S ds (fuel + 1) l a W := by
 have c := K.cell2 n hn
 refine last_ l' hi hN hc hd fun K' hK => skip_ hw hN (hrun c.1 c.2 (K.fz n hn 0) (K.fz n hn 1)) ?_
 exact hK.out _ _ (h _ (K.put2 n x y hn))
theorem kone2 {i : Nat} {oi : Oper} {fuel : Nat} {l : Array Bool} (l' : Array Bool) (n : Nat) (x y : Value) (K : Kp w bs vs os W) (hn : bs[n]? = some (g, #[a0, b0], t)) (hi : ops[i]? = some oi) (hN : oi.dst = none) (hc : readyB md ops l l' i = true) (hd : i ∉ ds) (hw : Region.wanted oi (yielded ops a.tmps) = true)
  (hrun : W.cell? ⟨g, 0, none⟩ = some a0 → W.cell? ⟨g, 1, none⟩ = some b0 → W.frozen? ⟨g, 0, none⟩ = false → W.frozen? ⟨g, 1, none⟩ = false → (execOp a.eval oi).run P W = .ok .skip ((W.setCell ⟨g, 0, none⟩ x).setCell ⟨g, 1, none⟩ y))
  (hS : ∀ W1, Kp w (bs.set n (g, #[x, y], t)) vs os W1 → S W1) (h : ∀ W1, Kp w (bs.set n (g, #[x, y], t)) vs os W1 → wpAnyLast P md ops Q S ds fuel l' a W1) : wpAnyLast P md ops Q S ds (fuel + 1) l a W := by
 have c := K.cell2 n hn
 refine one_ l' hi hN hc hd fun K' hK => skip_ hw hN (hrun c.1 c.2 (K.fz n hn 0) (K.fz n hn 1)) ?_
 exact hK.out _ _ (hS _ (K.put2 n x y hn)) fun _ => h _ (K.put2 n x y hn)
end
section
variable {P : Program} {ops : Array Oper} {Q : Exit → Act → World → Prop} {rest : List Oper} {o : Oper} {a : Act} {w W : World} {bs : List Bx} {vs os : List KV} {g t : Nat} {a0 b0 : Value} {md : Region.Mode} {S : World → Prop} {ds : List Nat}
theorem ks2 (n : Nat) (x y : Value) (K : Kp w bs vs os W) (hn : bs[n]? = some (g, #[a0, b0], t)) (h : ∀ W1, Kp w (bs.set n (g, #[x, y], t)) vs os W1 → wpList P ops Q rest a W1) (hd : o.dst = none := by rfl) (hgd : o.guard = none := by rfl)
 (hrun : W.cell? ⟨g, 0, none⟩ = some a0 → W.cell? ⟨g, 1, none⟩ = some b0 → W.frozen? ⟨g, 0, none⟩ = false → W.frozen? ⟨g, 1, none⟩ = false → (execOp a.eval o).run P W = .ok .skip ((W.setCell ⟨g, 0, none⟩ x).setCell ⟨g, 1, none⟩ y) := by intro c0 c1 f0 f1; first | (go_simp; done) | (go_simp; rfl)) : wpList P ops Q (o :: rest) a W := kst2 n x y K hn hrun h hd hgd
theorem ko2 {i : Nat} {oi : Oper} {fuel : Nat} {l : Array Bool} (l' : Array Bool) (n : Nat) (x y : Value) (K : Kp w bs vs os W) (hn : bs[n]? = some (g, #[a0, b0], t)) (hi : ops[i]? = some oi) (hN : oi.dst = none) (hc : readyB md ops l l' i = true) (hd : i ∉ ds) (hw : Region.wanted oi (yielded ops a.tmps) = true)
 (hS : ∀ W1, Kp w (bs.set n (g, #[x, y], t)) vs os W1 → S W1) (h : ∀ W1, Kp w (bs.set n (g, #[x, y], t)) vs os W1 → wpAnyLast P md ops Q S ds fuel l' a W1) (hrun : W.cell? ⟨g, 0, none⟩ = some a0 → W.cell? ⟨g, 1, none⟩ = some b0 → W.frozen? ⟨g, 0, none⟩ = false → W.frozen? ⟨g, 1, none⟩ = false → (execOp a.eval oi).run P W = .ok .skip ((W.setCell ⟨g, 0, none⟩ x).setCell ⟨g, 1, none⟩ y) := by intro c0 c1 f0 f1; first | (go_simp; done) | (go_simp; rfl)) : wpAnyLast P md ops Q S ds (fuel + 1) l a W := kone2 l' n x y K hn hi hN hc hd hw hrun hS h
theorem kbk {rest : List Oper} {o : Oper} (N : Tmp) (cs : Array Value) (t : TypeId) (K : Kp w bs vs os W) (h : ∀ g W1, Kp w (bs ++ [(g, cs, t)]) vs os W1 → wpList P ops Q rest (a.put o.dst (.pointer (some ⟨g, 0, none⟩))) W1)
 (hd : o.dst = some N := by rfl) (hgd : o.guard = none := by rfl) (hrun : (execOp a.eval o).run P W = .ok (.value (.pointer (some ⟨W.heap.size, 0, none⟩))) (W.alloc (.cells cs t (0, 0))) := by first | (go_simp; done) | (go_simp; rfl)) : wpList P ops Q (o :: rest) a W :=
 kbe N cs t (fun g hg w1 hx hb => h g w1 (K.box hg hx hb)) hd hgd hrun
end
theorem kpstart {P : Program} {ops : Array Oper} {Q : Exit → Act → World → Prop} {S : World → Prop} {ds : List Nat} {id n : Nat} {a : Act} {w W W0 : World} {bs : List Bx} {vs os : List KV} [u : UpO W0 W] (l : Array Bool) (hm : P.follows .mixedOrders = true) (hn : ops.size = n) (hl : Array.replicate n false = l)
  (K : Kp w bs vs os W0) (hS : ∀ W', Kp w bs vs os W' → S W') (h : ∀ W', Kp w bs vs os W' → S W' → wpAnyLast P .any ops Q S ds n l a W') : (Code.region id ops true).wp P Q a W :=
 start_ l hm hn hl (hS _ (K.up (below_drew u.below))) fun h' => h _ (K.up (below_drew u.below)) h'
theorem klv : (∀ l : List KV, [] ++ l = l) ∧ (∀ (x : KV) (l m : List KV), x :: l ++ m = x :: (l ++ m)) :=
 ⟨fun _ => rfl, fun _ _ _ => rfl⟩
end Go.Proofs.YtodhkpdcpneeeaaDoor.Mine
namespace Go.Proofs.YtodhkpdcpneeeaaDoor.PDv
open Go.RowKit Go.Proofs.YtodhkpdcpneeeaaDoorW.PrintWords Go.Proofs.YtodhkpdcpneeeaaDoorW.PrintLast Go.Proofs.YtodhkpdcpneeeaaDoorW.PrintMore
open Go.Proofs.YtodhkpdcpneeeaaDoor.Mine
attribute [local go_sem] max2_int min2_int max_two min_two max_three min_three max_four min_four
def whole_number_cut.f (k : Nat) (l0_0 : List Int) (a0_1 : Bool) (l1_0 : List Int) (a1_1 : Bool) : Option (List Int × Bool × List Int × Bool) := (whole_amount_quo.f k l0_0 l1_0).bind fun bt177 => ((whole_signed.f bt177.1 (a0_1 != a1_1)).bind fun bt183 => ((whole_signed.f bt177.2 a0_1).bind fun bt187 => (some (bt183.1, bt183.2, bt187.1, bt187.2))))
theorem whole_number_cut.mono : ∀ a0 a1 a2 a3 k, LeO (whole_number_cut.f k a0 a1 a2 a3) (whole_number_cut.f (k + 1) a0 a1 a2 a3) := by
 intro a0 a1 a2 a3 k
 unfold whole_number_cut.f
 repeat' first
   | (with_reducible exact whole_amount_quo.mono _ _ _)
   | (with_reducible exact LeO.refl _)
   | (with_reducible exact LeO.none _)
   | (with_reducible refine LeO.ite ?_ ?_)
   | (with_reducible refine LeO.bind ?_ (fun _ => ?_))
   | exact whole_amount_quo.mono _ _ _
   | exact LeO.none _
   | refine LeO.ite ?_ ?_
   | refine LeO.bind ?_ (fun _ => ?_)
def whole_number_cut.T2 : Bool × List (List Nat × List Nat) := (true, [([], []), ([], []), ([1], [1]), ([], []), ([3], [3]), ([2, 4], [2, 4]), ([0, 5], [0, 5]), ([], []), ([], []), ([8], [8]), ([7, 9, 6], [7, 9]), ([6, 10, 0, 1, 2, 3, 4, 5, 6], [6]), ([10, 11, 0, 1, 2, 3, 4, 5, 6, 7, 8, 9, 10, 11], [10])])
def whole_number_cut.B2 : List Nat := [0, 0, 2, 0, 8, 30, 63, 0, 0, 256, 1023, 2047, 4095]
theorem whole_number_cut.tab2 : rtab .any (opsOf Tryd.f58 2) = whole_number_cut.T2 := by kernel_rfl
theorem whole_number_cut.bits2 : waitsOk whole_number_cut.T2.2 whole_number_cut.B2 = true := by kernel_rfl
theorem whole_number_cut.calls (k : Nat) (P0_0_ : Nat → Prop) (A0_0 : Option Addr) (c0_0 : Nat) (l0_0 : List Int) (a0_1 : Bool) (A1_0 : Option Addr) (c1_0 : Nat) (l1_0 : List Int) (a1_1 : Bool) (r1 : List Int) (r2 : Bool) (r3 : List Int) (r4 : Bool) (w : World) (hs0_0 : Kd.V (Kd.int .u64) 59 w w.heap.size (fun k_ => P0_0_ k_) (.slice A0_0 l0_0.length c0_0) l0_0) (hr1_0 : Kd.C (Kd.int .u64) w A1_0 l1_0.length l1_0) (hc1_0 : l1_0.length ≤ c1_0) (h : whole_number_cut.f k l0_0 a0_1 l1_0 a1_1 = some (r1, r2, r3, r4)) :
  Calls Tryd.prog 58 #[.agg #[.slice A0_0 l0_0.length c0_0, .bool a0_1], .agg #[.slice A1_0 l1_0.length c1_0, .bool a1_1]] w fun e w' => ∃ v0_ v2_ : Value, e = .returned (.tuple #[.agg #[v0_, .bool r2], .agg #[v2_, .bool r4]]) ∧ Kd.V (Kd.int .u64) 59 w' w.heap.size (fun k_ => (P0_0_ k_ ∨ w.heap.size ≤ k_)) v0_ r1 ∧ Kd.V (Kd.int .u64) 59 w' w.heap.size (fun k_ => (P0_0_ k_ ∨ w.heap.size ≤ k_)) v2_ r3 ∧ Below w.heap.size w w' := by
 have hu62 := Tryd.underlying62
 have K := Kp.refl w
 replace K := K.parV (Kd.V_mono (ok' := fun k => P0_0_ k) hs0_0 (fun _ h => h))
 clear hs0_0
 replace K := K.parV (Kd.V_mono (ok' := fun k => k < w.heap.size) (Kd.V_mk (e := 59) (base := 0) hc1_0 (Kd.C_F (Kd.heap_int .u64) hr1_0)) (fun _ h => h))
 clear hr1_0 hc1_0
 try simp only [klv] at K
 rw [whole_number_cut.f] at h
 replace h := bindA h
 obtain ⟨⟨x9, x10⟩, A11, h⟩ := h
 dsimp only at h
 replace h := bindA h
 obtain ⟨⟨x23, z24⟩, A25, h⟩ := h
 dsimp only at h
 replace h := bindA h
 obtain ⟨⟨x26, z27⟩, A28, h⟩ := h
 dsimp only at h
 go_enter Tryd.func58, Tryd.ntmps58
 go_wp2_with (first | (refine gd 2 rfl ?_; refine kbk 2 #[.slice A0_0 l0_0.length c0_0, .bool a0_1] 62 K.u ?_; clear K; intro g1 W2 K) | (refine gd 3 rfl ?_; refine kbk 3 #[.slice A1_0 l1_0.length c1_0, .bool a1_1] 62 K.u ?_; clear K; intro g3 W4 K) | (refine gd 4 rfl ?_; refine kbk 4 #[.slice none 0 0, .bool false] 62 K.u ?_; clear K; intro g5 W6 K) | (refine gd 5 rfl ?_; refine kbk 5 #[.slice none 0 0, .bool false] 62 K.u ?_; clear K; intro g7 W8 K; obtain ⟨ua0, ub0⟩ := K.cell2 0 rfl; obtain ⟨ua1, ub1⟩ := K.cell2 1 rfl) | (refine gd 13 rfl ?_; clear ua0 ub0 ua1 ub1; refine kgl (some 13) rfl rfl Tryd.func92 #[.slice A0_0 l0_0.length c0_0, .slice A1_0 l1_0.length c1_0] rfl ?_; refine (whole_amount_quo.calls _ _ _ _ l0_0 _ _ l1_0 x9 x10 _ (K.V 0 rfl) (K.C 1 rfl) (K.le 1 rfl) A11.out).mono ?_; rintro e W16 ⟨v12, v13, rfl, ho14, ho15, hb⟩; refine ⟨_, rfl, ?_⟩; have K1 := K.u.add (fun k => P0_0_ k) hb ho14 (fun _ h => h); replace K := K.u.more (fun k => P0_0_ k) K1 ho15 (fun _ h => h); clear K1; clear hb ho14 ho15; obtain ⟨P17, c18, e19⟩ := K.slice 2 rfl; subst e19; obtain ⟨P20, c21, e22⟩ := K.slice 3 rfl; subst e22))
 obtain ⟨Bs, Vs, Os, hBs, hVs, hOs, K⟩ := K.abs
 have HS : Aside0 (∀ l m o W, Kp w (Bs ++ l) m o W → W.cell? ⟨g1, 0, none⟩ = some (.slice A0_0 l0_0.length c0_0) ∧ W.cell? ⟨g1, 1, none⟩ = some (.bool a0_1) ∧ W.cell? ⟨g3, 0, none⟩ = some (.slice A1_0 l1_0.length c1_0) ∧ W.cell? ⟨g3, 1, none⟩ = some (.bool a1_1)) := ⟨fun l m o W K => by rw [hBs.out] at K; exact ⟨K.cell 0 rfl 0 rfl, K.cell 0 rfl 1 rfl, K.cell 1 rfl 0 rfl, K.cell 1 rfl 1 rfl⟩⟩
 refine kpstart (n := 13) (ds := []) (S := fun W => W.cell? ⟨g1, 0, none⟩ = some (.slice A0_0 l0_0.length c0_0) ∧ W.cell? ⟨g1, 1, none⟩ = some (.bool a0_1) ∧ W.cell? ⟨g3, 0, none⟩ = some (.slice A1_0 l1_0.length c1_0) ∧ W.cell? ⟨g3, 1, none⟩ = some (.bool a1_1)) (bm_ 13 0) (by kernel_rfl) rfl rfl K (HS.out [] _ _) (fun W31 K hH => ?_)
 refine with_tabW whole_number_cut.tab2 whole_number_cut.bits2 (fun HT_ HW_ => ?_)
 refine pu_ 0 16 ?_ (bm_ 13 1) rfl rfl (any_of HT_.out (by kernel_rfl)) (fun _ _ _ h => h) (by rfl) ?_ ?_ ?_ ?_
 rotate_left
 ·intro w'
  go_simp
  with_reducible rfl
 rotate_left
 ·simp only [Act.put, kss, i64_w, i32_w]
  rfl
 refine pu_ 1 17 ?_ (bm_ 13 3) rfl rfl (any_of HT_.out (by kernel_rfl)) (fun _ _ _ h => h) (by rfl) ?_ ?_ ?_ ?_
 rotate_left
 ·intro w'
  go_simp
  with_reducible rfl
 rotate_left
 ·simp only [Act.put, kss, i64_w, i32_w]
  rfl
 refine tk_ 2 18 ?_ (bm_ 13 7) rfl rfl (take_ofW HT_.out HW_.out (by kernel_rfl)) (fun _ _ _ h => h) (by rfl) ?_ hH ?_ ?_ ?_
 rotate_left
 ·rintro w' ⟨s0, s1, s2, s3⟩
  go_simp
  with_reducible rfl
 rotate_left
 ·simp only [Act.put, kss, i64_w, i32_w]
  rfl
 refine pu_ 3 19 ?_ (bm_ 13 15) rfl rfl (any_of HT_.out (by kernel_rfl)) (fun _ _ _ h => h) (by rfl) ?_ ?_ ?_ ?_
 rotate_left
 ·intro w'
  go_simp
  with_reducible rfl
 rotate_left
 ·simp only [Act.put, kss, i64_w, i32_w]
  rfl
 refine tk_ 4 20 ?_ (bm_ 13 31) rfl rfl (take_ofW HT_.out HW_.out (by kernel_rfl)) (fun _ _ _ h => h) (by rfl) ?_ hH ?_ ?_ ?_
 rotate_left
 ·rintro w' ⟨s0, s1, s2, s3⟩
  go_simp
  with_reducible rfl
 rotate_left
 ·simp only [Act.put, kss, i64_w, i32_w]
  rfl
 refine pu_ 5 21 ?_ (bm_ 13 63) rfl rfl (any_of HT_.out (by kernel_rfl)) (fun _ _ _ h => h) (by rfl) ?_ ?_ ?_ ?_
 rotate_left
 ·intro w'
  go_simp
  with_reducible rfl
 rotate_left
 ·simp only [Act.put, kss, i64_w, i32_w]
  rfl
 refine pu_ 7 23 ?_ (bm_ 13 191) rfl rfl (any_of HT_.out (by kernel_rfl)) (fun _ _ _ h => h) (by rfl) ?_ ?_ ?_ ?_
 rotate_left
 ·intro w'
  go_simp
  with_reducible rfl
 rotate_left
 ·simp only [Act.put, kss, i64_w, i32_w]
  rfl
 refine pu_ 8 24 ?_ (bm_ 13 447) rfl rfl (any_of HT_.out (by kernel_rfl)) (fun _ _ _ h => h) (by rfl) ?_ ?_ ?_ ?_
 rotate_left
 ·intro w'
  go_simp
  with_reducible rfl
 rotate_left
 ·simp only [Act.put, kss, i64_w, i32_w]
  rfl
 refine tk_ 9 25 ?_ (bm_ 13 959) rfl rfl (take_ofW HT_.out HW_.out (by kernel_rfl)) (fun _ _ _ h => h) (by rfl) ?_ hH ?_ ?_ ?_
 rotate_left
 ·rintro w' ⟨s0, s1, s2, s3⟩
  go_simp
  with_reducible rfl
 rotate_left
 ·simp only [Act.put, kss, i64_w, i32_w]
  rfl
 refine one_ (i := 6) (N := some 22) (bm_ 13 1023) rfl rfl (one_of HT_.out (by kernel_rfl)) (by decide) (fun Kc hK => ?_)
 refine kgo Tryd.func60 #[.slice P17 x9.length c18, .bool (a0_1 != a1_1)] (by rfl) rfl rfl ?_
 refine (whole_signed.calls _ _ _ x9 (a0_1 != a1_1) x23 z24 _ (K.V 2 (hv hVs rfl)) A25.out).mono ?_
 rintro e W' ⟨v29, rfl, ho32, hb⟩
 replace K := K.addI 0 (fun k => P0_0_ k) hb ho32 (fun _ h => h)
 clear hb ho32
 refine ⟨_, rfl, hK.out _ _ (HS.out _ _ _ _ K) fun hH => ?_⟩
 clear hK Kc
 refine norm_ (a' := ?_) ?_ ?_
 rotate_left
 ·show Act.put _ (some 22) _ = _
  simp only [Act.put, kss, i64_w, i32_w]
  rfl
 refine one_ (i := 10) (N := some 26) (bm_ 13 2047) rfl rfl (one_of HT_.out (by kernel_rfl)) (by decide) (fun Kc hK => ?_)
 refine kgo Tryd.func60 #[.slice P20 x10.length c21, .bool a0_1] (by rfl) rfl rfl ?_
 refine (whole_signed.calls _ _ _ x10 a0_1 x26 z27 _ (K.V 3 (hv hVs rfl)) A28.out).mono ?_
 rintro e W' ⟨v30, rfl, ho33, hb⟩
 replace K := K.addI 1 (fun k => P0_0_ k) hb ho33 (fun _ h => h)
 clear hb ho33
 refine ⟨_, rfl, hK.out _ _ (HS.out _ _ _ _ K) fun hH => ?_⟩
 clear hK Kc
 refine norm_ (a' := ?_) ?_ ?_
 rotate_left
 ·show Act.put _ (some 26) _ = _
  simp only [Act.put, kss, i64_w, i32_w]
  rfl
 obtain ⟨P34, c35, e36⟩ := K.slice 4 (hv hVs rfl)
 subst e36
 obtain ⟨P37, c38, e39⟩ := K.slice 5 (hv hVs rfl)
 subst e39
 rw [hBs.out, hVs.out, hOs.out] at K
 simp only [kls, klv] at K
 clear hBs hVs hOs HS hH
 refine ko2 (i := 11) (bm_ 13 4095) 2 (.slice P34 x23.length c35) (.bool z24) K rfl rfl rfl (one_of HT_.out (by kernel_rfl)) (by decide) (by rfl) (fun W K => ⟨K.cell 0 rfl 0 rfl, K.cell 0 rfl 1 rfl, K.cell 1 rfl 0 rfl, K.cell 1 rfl 1 rfl⟩) ?_
 clear K
 intro W40 K
 simp only [kls, klv] at K
 refine ko2 (i := 12) (bm_ 13 8191) 3 (.slice P37 x26.length c38) (.bool z27) K rfl rfl rfl (one_of HT_.out (by kernel_rfl)) (by decide) (by rfl) (fun W K => ⟨K.cell 0 rfl 0 rfl, K.cell 0 rfl 1 rfl, K.cell 1 rfl 0 rfl, K.cell 1 rfl 1 rfl⟩) ?_
 clear K
 intro W41 K
 simp only [kls, klv] at K
 refine done_ (done_of HT_.out (by kernel_rfl)) ?_
 clear HT_ HW_
 simp only [Option.some.injEq, Prod.mk.injEq] at h
 obtain ⟨rfl, rfl, rfl, rfl⟩ := h
 go_wp2
 refine bodyPost_ret (results_list (rs := [.cell 4 62, .cell 5 62]) rfl (by simp) (.cell g5 62 #[.slice P34 x23.length c35, .bool z24] (0, 0) _ rfl (K.u.heap 2 rfl) Tryd.underlying62 rfl (by kernel_rfl) (.cell g7 62 #[.slice P37 x26.length c38, .bool z27] (0, 0) _ rfl (K.u.heap 3 rfl) Tryd.underlying62 rfl (by kernel_rfl) .nil))) rfl ?_
 exact ⟨_, _, rfl, K.u.hand 4 rfl (fun k_ h => by first | exact h | exact .inr (h.resolve_left id) | (simp only [or_false, false_or, or_self] at h ⊢; first | exact h | (rcases h with h | h <;> simp_all) | simp_all)), K.u.hand 5 rfl (fun k_ h => by first | exact h | exact .inr (h.resolve_left id) | (simp only [or_false, false_or, or_self] at h ⊢; first | exact h | (rcases h with h | h <;> simp_all) | simp_all)), K.u.below⟩
def whole_one.f  : Option (List Int × Bool) := some ((([1] : List Int)), false)
theorem whole_one.calls  (r1 : List Int) (r2 : Bool) (w : World) (h : whole_one.f  = some (r1, r2)) :
  Calls Tryd.prog 61 #[] w fun e w' => ∃ v0_ : Value, e = .returned (.agg #[v0_, .bool r2]) ∧ Kd.R (Kd.int .u64) 59 w' w.heap.size (fun _ => True) v0_ r1 ∧ Below w.heap.size w w' := by
 have hu62 := Tryd.underlying62
 have HB := Aside0.mk (Below.refl w.heap.size w)
 have H : (some ((([1] : List Int)), false)) = some (r1, r2) := h
 clear h
 obtain ⟨y258, hy258⟩ : ∃ y_ : List Int, y_ = (([1] : List Int)) := ⟨_, rfl⟩
 replace H : (some (y258, false)) = some (r1, r2) := by first | (rw [hy258]; with_reducible exact H) | (have H2_ := (Option.bind_some _ _).symm.trans H; rw [hy258]; with_reducible exact H2_) | (have H2_ := (Option.bind_some _ _).symm.trans H; with_reducible exact H2_) | with_reducible exact H | (rw [hy258]; exact H) | exact H
 have Ny258 := Aside0.mk hy258
 clear hy258
 simp only [Option.some.injEq, Prod.mk.injEq] at H
 obtain ⟨rfl, rfl⟩ := H
 go_enter Tryd.func61, Tryd.ntmps61
 go_wp2_with (first | (refine gd 0 rfl ?_; refine kbe 0 #[.slice none 0 0, .bool false] 62 ?_; intro gb257 hg w1 hbox hb; have BK257 := Aside0.mk (hbox); have GW257 := kbz hg HB; have GE257 := kbz hg HB; replace HB := kbs HB hb; clear hb hbox hg) | (refine gd 1 rfl ?_; refine Kd.R_lit (Kd.int .u64) _ 59 ?hg (N := 1) ?hd (xs := ([1] : List Int)) (inner := [.int .u64 1]) (ok := fun _ => True) (okp := fun _ => True) ?hr ?hp (fun _ hk => hk) trivial (Below.refl _ _) (Nat.le_refl _) (by simp) ?_; (case hd => rfl); (case hg => rfl); (case hr => first | (go_simp; done) | (go_simp; rfl)); (case hp => exact (Reps.one (show Kd.M (Kd.int .u64) _ _ _ 1 [.int .u64 1] from rfl) (Reps.none _ _))); intro v259 w2 ho3 hb hg_ hnew_; clear hg_ hnew_; (first | rw [← Ny258.out] at ho3 | (simp only [Int.reduceToNat] at ho3; rw [← Ny258.out] at ho3)); have HO260 := Aside0.mk (Kd.R_lower ho3 (below_size (khu HB.out))); replace BK257 := kbb BK257 hb; replace HB := kbs HB hb; clear hb ho3; obtain ⟨Ao4, co4, eo4⟩ := Kd.R_slice HO260.out; subst eo4; have hcz5_0 : w2.cell? ⟨gb257, 0, none⟩ = some (.slice none 0 0) := (blk_cell BK257.out 0).trans rfl; have hcz5_1 : w2.cell? ⟨gb257, 1, none⟩ = some (.bool false) := (blk_cell BK257.out 1).trans rfl; have hfz5_0 := blk_frozen BK257.out 0; have hfz5_1 := blk_frozen BK257.out 1))
 refine bodyPost_ret (results_cell_row rfl _ _ gb257 62 #[.slice Ao4 y258.length co4, .bool false] (0, 0) _ rfl (kpu #[.slice Ao4 y258.length co4, .bool false] 1 (kpu #[.slice none 0 0, .bool false] 0 (kbu BK257.out))) Tryd.underlying62 rfl (by kernel_rfl)) rfl ?_
 exact ⟨_, by first | rfl | (simp [*, errW_none, errW_some] <;> rfl), by (with_reducible repeat (first | apply Kd.R_alloc | apply Kd.R_drewN | apply Kd.R_drew)); exact Kd.R_mono (Kd.R_far (p := ⟨gb257, 1, none⟩) (Kd.R_far (p := ⟨gb257, 0, none⟩) (Kd.R_types HO260.out BK257.out (by decide)) (fun _ hk => hk.2) (.slice Ao4 y258.length co4)) (fun _ hk => hk.2) (.bool false)) (fun _ hk => trivial), by repeat (first | (with_reducible first | exact HB.out | apply below_alloc | apply pw_below_drewN | apply below_drew1 | refine below_set ?_ GE257.out) | exact HB.out)⟩
def whole_number_opposite.f (l0_0 : List Int) (a0_1 : Bool) : Option (List Int × Bool) := (whole_signed.f l0_0 (!a0_1)).bind fun bt263 => (some (bt263.1, bt263.2))
theorem whole_number_opposite.calls (P0_0_ : Nat → Prop) (A0_0 : Option Addr) (c0_0 : Nat) (l0_0 : List Int) (a0_1 : Bool) (r1 : List Int) (r2 : Bool) (w : World) (hs0_0 : Kd.V (Kd.int .u64) 59 w w.heap.size (fun k_ => P0_0_ k_) (.slice A0_0 l0_0.length c0_0) l0_0) (h : whole_number_opposite.f l0_0 a0_1 = some (r1, r2)) :
  Calls Tryd.prog 86 #[.agg #[.slice A0_0 l0_0.length c0_0, .bool a0_1]] w fun e w' => ∃ v0_ : Value, e = .returned (.agg #[v0_, .bool r2]) ∧ Kd.V (Kd.int .u64) 59 w' w.heap.size (fun k_ => (P0_0_ k_ ∨ w.heap.size ≤ k_)) v0_ r1 ∧ Below w.heap.size w w' := by
 have hu62 := Tryd.underlying62
 have K := Kp.refl w
 replace K := K.parV (Kd.V_mono (ok' := fun k => P0_0_ k) hs0_0 (fun _ h => h))
 clear hs0_0
 try simp only [klv] at K
 rw [whole_number_opposite.f] at h
 replace h := bindA h
 obtain ⟨⟨x5, z6⟩, A7, h⟩ := h
 dsimp only at h
 simp only [Option.some.injEq, Prod.mk.injEq] at h
 obtain ⟨rfl, rfl⟩ := h
 go_enter Tryd.func86, Tryd.ntmps86
 go_wp2_with (first | (refine gd 1 rfl ?_; refine kbk 1 #[.slice A0_0 l0_0.length c0_0, .bool a0_1] 62 K.u ?_; clear K; intro g1 W2 K) | (refine gd 2 rfl ?_; refine kbk 2 #[.slice none 0 0, .bool false] 62 K.u ?_; clear K; intro g3 W4 K; obtain ⟨ua0, ub0⟩ := K.cell2 0 rfl) | (refine gd 8 rfl ?_; clear ua0 ub0; refine kgl (some 8) rfl rfl Tryd.func60 #[.slice A0_0 l0_0.length c0_0, .bool !a0_1] rfl ?_; refine (whole_signed.calls _ _ _ l0_0 (!a0_1) x5 z6 _ (K.V 0 rfl) A7.out).mono ?_; rintro e W10 ⟨v8, rfl, ho9, hb⟩; refine ⟨_, rfl, ?_⟩; replace K := K.u.add (fun k => P0_0_ k) hb ho9 (fun _ h => h); clear hb ho9; obtain ⟨P11, c12, e13⟩ := K.slice 1 rfl; subst e13) | (refine gs 62 2 8 rfl ?_; refine ks2 1 (.slice P11 x5.length c12) (.bool z6) K.u rfl ?_; clear K; intro W14 K; simp only [kls, klv] at K))
 refine bodyPost_ret (results_single rfl (.cell g3 62 #[.slice P11 x5.length c12, .bool z6] (0, 0) _ rfl (K.u.heap 1 rfl) Tryd.underlying62 rfl (by kernel_rfl) .nil)) rfl ?_
 exact ⟨_, rfl, K.u.hand 1 rfl (fun k_ h => by first | exact h | exact .inr (h.resolve_left id) | (simp only [or_false, false_or, or_self] at h ⊢; first | exact h | (rcases h with h | h <;> simp_all) | simp_all)), K.u.below⟩
end Go.Proofs.YtodhkpdcpneeeaaDoor.PDv
