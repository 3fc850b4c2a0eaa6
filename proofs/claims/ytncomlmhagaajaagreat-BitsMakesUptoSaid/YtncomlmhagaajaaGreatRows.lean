/-
  No cell of these rows narrows 'for every input' (looked for: loops, veiled, ifaces, maps, wideKeys, modest, calm, conditions, laid).
  DERIVED. THE GIVEN ROWS OF THIS SEAT. 8 by the template 'for every input the law returns true; each argument reads behind the call as it read before'; 0 by the template 'total and deterministic' (their statements: YtncomlmhagaajaaGreatTotals.lean).
  GIVEN WITH THE SEED: the statements are not yours to turn. If you find one false, say at which input.
  Laid BY PROGRAM, IN A SANDBOX (cutbox-rows.mjs): the forced cells as the released guide's own fill.sh prints them over the translation 5629e3f36c01d820… (all of the seat's roots in one cut). By AI agents, Wed Nov 11 2026. No macro, syntax, notation, axiom, sorry.
-/
import Derived.Test.YtncomlmhagaajaaGreatChecked
import GoSem.Claim
import GoSem.ClaimJoined
import GoSem.ClaimMapViews
import Derived.JoinedTies
import Derived.KernelRfl
namespace Go.Proofs.YtncomlmhagaajaaGreat
/- THE CELL 'sum', in the pinned program and in every row, IS THE sha256 OF THE DUMP (.gsa) THAT YtncomlmhagaajaaGreatProg.lean LOADS. Nothing in Lean hashes anything: it is a label: what it is worth is what the hold of that sum in a sandbox is worth. -/
noncomputable def Tryz.pinned : Pinned := { name := "ytncomlmhagaajaagreat", sum := "5629e3f36c01d82098ab735e0abda6c03f0622a580d2192c4a5eb7bde5c762af", checked := Tryz.checked }
namespace Rows
def none {H : Type} : Left H := { results := [], args := [] }

/-- 'tribunallaw09.BitsApplies': WHATEVER THE INPUT: true; the input reads as it did. -/
def bitsAppliesSpec : ChangeSpec := { name := "bitsApplies", fn := fun _ => fun
  | [d1, d2, d3] => { results := [.lit (.bool true)], args := [d1, d2, d3] }
  | _ => none }
def bitsAppliesRow : OpenClaim := { program := "ytncomlmhagaajaagreat", sum := "5629e3f36c01d82098ab735e0abda6c03f0622a580d2192c4a5eb7bde5c762af", func := "tribunal/tribunallaw09.BitsApplies", spec := "bitsApplies", inPlace := ["math/bits.Add64", "math/bits.Sub64"], unfollowed := true, recurses := true, named := ["math/bits.divideError", "math/bits.overflowError"], apart := false }
def BitsAppliesSaid : Prop := bitsAppliesRow.holds Tryz.pinned (OpenSpec.ofChange bitsAppliesSpec)

/-- ITS FALSE NEIGHBOUR: 'it returns false'. Refute it at one input. -/
def bitsAppliesWrong : ChangeSpec := { name := "bitsApplies", fn := fun _ => fun
  | [d1, d2, d3] => { results := [.lit (.bool false)], args := [d1, d2, d3] }
  | _ => none }
def BitsAppliesWrongFalsely : Prop := bitsAppliesRow.holds Tryz.pinned (OpenSpec.ofChange bitsAppliesWrong)

/-- 'tribunallaw09.BitsHolds': WHATEVER THE INPUT: true; the input reads as it did. -/
def bitsHoldsSpec : ChangeSpec := { name := "bitsHolds", fn := fun _ => fun
  | [d1, d2, d3] => { results := [.lit (.bool true)], args := [d1, d2, d3] }
  | _ => none }
def bitsHoldsRow : OpenClaim := { program := "ytncomlmhagaajaagreat", sum := "5629e3f36c01d82098ab735e0abda6c03f0622a580d2192c4a5eb7bde5c762af", func := "tribunal/tribunallaw09.BitsHolds", spec := "bitsHolds", inPlace := ["math/bits.Add64", "math/bits.Sub64"], unfollowed := true, recurses := true, named := ["math/bits.divideError", "math/bits.overflowError"], apart := false }
def BitsHoldsSaid : Prop := bitsHoldsRow.holds Tryz.pinned (OpenSpec.ofChange bitsHoldsSpec)

/-- ITS FALSE NEIGHBOUR: 'it returns false'. Refute it at one input. -/
def bitsHoldsWrong : ChangeSpec := { name := "bitsHolds", fn := fun _ => fun
  | [d1, d2, d3] => { results := [.lit (.bool false)], args := [d1, d2, d3] }
  | _ => none }
def BitsHoldsWrongFalsely : Prop := bitsHoldsRow.holds Tryz.pinned (OpenSpec.ofChange bitsHoldsWrong)

/-- 'tribunallaw09.BitsRing': WHATEVER THE INPUT: true; the input reads as it did. -/
def bitsRingSpec : ChangeSpec := { name := "bitsRing", fn := fun _ => fun
  | [d1, d2, d3, d4] => { results := [.lit (.bool true)], args := [d1, d2, d3, d4] }
  | _ => none }
def bitsRingRow : OpenClaim := { program := "ytncomlmhagaajaagreat", sum := "5629e3f36c01d82098ab735e0abda6c03f0622a580d2192c4a5eb7bde5c762af", func := "tribunal/tribunallaw09.BitsRing", spec := "bitsRing", inPlace := ["math/bits.Add64", "math/bits.Sub64"], unfollowed := true, recurses := true, named := ["math/bits.divideError", "math/bits.overflowError"], apart := false }
def BitsRingSaid : Prop := bitsRingRow.holds Tryz.pinned (OpenSpec.ofChange bitsRingSpec)

/-- ITS FALSE NEIGHBOUR: 'it returns false'. Refute it at one input. -/
def bitsRingWrong : ChangeSpec := { name := "bitsRing", fn := fun _ => fun
  | [d1, d2, d3, d4] => { results := [.lit (.bool false)], args := [d1, d2, d3, d4] }
  | _ => none }
def BitsRingWrongFalsely : Prop := bitsRingRow.holds Tryz.pinned (OpenSpec.ofChange bitsRingWrong)

/-- 'tribunallaw09.BitsDivides': WHATEVER THE INPUT: true; the input reads as it did. -/
def bitsDividesSpec : ChangeSpec := { name := "bitsDivides", fn := fun _ => fun
  | [d1, d2, d3] => { results := [.lit (.bool true)], args := [d1, d2, d3] }
  | _ => none }
def bitsDividesRow : OpenClaim := { program := "ytncomlmhagaajaagreat", sum := "5629e3f36c01d82098ab735e0abda6c03f0622a580d2192c4a5eb7bde5c762af", func := "tribunal/tribunallaw09.BitsDivides", spec := "bitsDivides", inPlace := ["math/bits.Add64", "math/bits.Sub64"], unfollowed := true, recurses := true, named := ["math/bits.divideError", "math/bits.overflowError"], apart := false }
def BitsDividesSaid : Prop := bitsDividesRow.holds Tryz.pinned (OpenSpec.ofChange bitsDividesSpec)

/-- ITS FALSE NEIGHBOUR: 'it returns false'. Refute it at one input. -/
def bitsDividesWrong : ChangeSpec := { name := "bitsDivides", fn := fun _ => fun
  | [d1, d2, d3] => { results := [.lit (.bool false)], args := [d1, d2, d3] }
  | _ => none }
def BitsDividesWrongFalsely : Prop := bitsDividesRow.holds Tryz.pinned (OpenSpec.ofChange bitsDividesWrong)

/-- 'tribunallaw09.BitsOrders': WHATEVER THE INPUT: true; the input reads as it did. -/
def bitsOrdersSpec : ChangeSpec := { name := "bitsOrders", fn := fun _ => fun
  | [d1, d2] => { results := [.lit (.bool true)], args := [d1, d2] }
  | _ => none }
def bitsOrdersRow : OpenClaim := { program := "ytncomlmhagaajaagreat", sum := "5629e3f36c01d82098ab735e0abda6c03f0622a580d2192c4a5eb7bde5c762af", func := "tribunal/tribunallaw09.BitsOrders", spec := "bitsOrders", inPlace := ["math/bits.Add64", "math/bits.Sub64"], unfollowed := true, recurses := true, named := ["math/bits.divideError", "math/bits.overflowError"], apart := false }
def BitsOrdersSaid : Prop := bitsOrdersRow.holds Tryz.pinned (OpenSpec.ofChange bitsOrdersSpec)

/-- ITS FALSE NEIGHBOUR: 'it returns false'. Refute it at one input. -/
def bitsOrdersWrong : ChangeSpec := { name := "bitsOrders", fn := fun _ => fun
  | [d1, d2] => { results := [.lit (.bool false)], args := [d1, d2] }
  | _ => none }
def BitsOrdersWrongFalsely : Prop := bitsOrdersRow.holds Tryz.pinned (OpenSpec.ofChange bitsOrdersWrong)

/-- 'tribunallaw09.BitsOwn': WHATEVER THE INPUT: true; the input reads as it did. -/
def bitsOwnSpec : ChangeSpec := { name := "bitsOwn", fn := fun _ => fun
  | [d1, d2, d3] => { results := [.lit (.bool true)], args := [d1, d2, d3] }
  | _ => none }
def bitsOwnRow : OpenClaim := { program := "ytncomlmhagaajaagreat", sum := "5629e3f36c01d82098ab735e0abda6c03f0622a580d2192c4a5eb7bde5c762af", func := "tribunal/tribunallaw09.BitsOwn", spec := "bitsOwn", inPlace := ["math/bits.Add64", "math/bits.Sub64"], unfollowed := true, recurses := true, named := ["math/bits.divideError", "math/bits.overflowError"], apart := false }
def BitsOwnSaid : Prop := bitsOwnRow.holds Tryz.pinned (OpenSpec.ofChange bitsOwnSpec)

/-- ITS FALSE NEIGHBOUR: 'it returns false'. Refute it at one input. -/
def bitsOwnWrong : ChangeSpec := { name := "bitsOwn", fn := fun _ => fun
  | [d1, d2, d3] => { results := [.lit (.bool false)], args := [d1, d2, d3] }
  | _ => none }
def BitsOwnWrongFalsely : Prop := bitsOwnRow.holds Tryz.pinned (OpenSpec.ofChange bitsOwnWrong)

/-- 'tribunallaw09.BitsMakes': WHATEVER THE INPUT: true; the input reads as it did. -/
def bitsMakesSpec : ChangeSpec := { name := "bitsMakes", fn := fun _ => fun
  | [d1, d2, d3, d4] => { results := [.lit (.bool true)], args := [d1, d2, d3, d4] }
  | _ => none }
def bitsMakesRow : OpenClaim := { program := "ytncomlmhagaajaagreat", sum := "5629e3f36c01d82098ab735e0abda6c03f0622a580d2192c4a5eb7bde5c762af", func := "tribunal/tribunallaw09.BitsMakes", spec := "bitsMakes", inPlace := ["math/bits.Add64", "math/bits.Sub64"], unfollowed := true, recurses := true, named := ["math/bits.divideError", "math/bits.overflowError"], apart := false }
def BitsMakesSaid : Prop := bitsMakesRow.holds Tryz.pinned (OpenSpec.ofChange bitsMakesSpec)

/-- ITS FALSE NEIGHBOUR: 'it returns false'. Refute it at one input. -/
def bitsMakesWrong : ChangeSpec := { name := "bitsMakes", fn := fun _ => fun
  | [d1, d2, d3, d4] => { results := [.lit (.bool false)], args := [d1, d2, d3, d4] }
  | _ => none }
def BitsMakesWrongFalsely : Prop := bitsMakesRow.holds Tryz.pinned (OpenSpec.ofChange bitsMakesWrong)

/-- 'tribunallaw09.BitsTurns': WHATEVER THE INPUT: true; the input reads as it did. -/
def bitsTurnsSpec : ChangeSpec := { name := "bitsTurns", fn := fun _ => fun
  | [d1, d2, d3] => { results := [.lit (.bool true)], args := [d1, d2, d3] }
  | _ => none }
def bitsTurnsRow : OpenClaim := { program := "ytncomlmhagaajaagreat", sum := "5629e3f36c01d82098ab735e0abda6c03f0622a580d2192c4a5eb7bde5c762af", func := "tribunal/tribunallaw09.BitsTurns", spec := "bitsTurns", inPlace := ["math/bits.Add64", "math/bits.Sub64"], unfollowed := true, recurses := true, named := ["math/bits.divideError", "math/bits.overflowError"], apart := false }
def BitsTurnsSaid : Prop := bitsTurnsRow.holds Tryz.pinned (OpenSpec.ofChange bitsTurnsSpec)

/-- ITS FALSE NEIGHBOUR: 'it returns false'. Refute it at one input. -/
def bitsTurnsWrong : ChangeSpec := { name := "bitsTurns", fn := fun _ => fun
  | [d1, d2, d3] => { results := [.lit (.bool false)], args := [d1, d2, d3] }
  | _ => none }
def BitsTurnsWrongFalsely : Prop := bitsTurnsRow.holds Tryz.pinned (OpenSpec.ofChange bitsTurnsWrong)

/- THE SECOND FORM. 'bulk': how many values and letters a reading holds, each counted each time it is reached (what is shared counts as often as it is met; a slice's spare places count too). A statement '..UptoSaid' is the law's where the arguments, and the package variables that the reading takes, are together of bulk at most 1048576: NARROWER than '..Said'. Prove '..Said' where nothing that the law and all that it calls make is longer than what came in: it says more and counts as full. Else prove '..UptoSaid'. A law counts once. -/
mutual
def uptoBulk {H : Type} : DataW H → Nat
  | .lit (.string bytes) => bytes.length + 1
  | .lit _ => 1
  | .nil => 1
  | .ptr d => uptoBulk d + 1
  | .slice elems spare => uptoBulkAll elems + uptoBulkAll spare + 1
  | .agg parts => uptoBulkAll parts + 1
  | .iface _ d => uptoBulk d + 1
  | .map entries => uptoBulkEntries entries + 1
  | .held _ => 1
def uptoBulkAll {H : Type} : List (DataW H) → Nat
  | [] => 0
  | d :: r => uptoBulk d + uptoBulkAll r
def uptoBulkEntries {H : Type} : List (Lit × DataW H) → Nat
  | [] => 0
  | x :: r => uptoBulkEntry x + uptoBulkEntries r
def uptoBulkEntry {H : Type} : Lit × DataW H → Nat
  | (.string bytes, d) => bytes.length + uptoBulk d + 1
  | (_, d) => uptoBulk d + 1
 end
def uptoSmall : (H : Type) → List (DataW H) → Bool := fun _ ds => decide (uptoBulkAll ds ≤ 1048576)
def OpenSpec.upto (s : _root_.Go.ChangeSpec) : _root_.Go.OpenSpec := { _root_.Go.OpenSpec.ofChange s with cond := some uptoSmall }

/-- 'tribunallaw09.BitsApplies', WHERE WHAT IT READS IS OF BULK AT MOST 1048576: true; the input reads as it did. -/
def bitsAppliesUptoRow : OpenClaim := { program := "ytncomlmhagaajaagreat", sum := "5629e3f36c01d82098ab735e0abda6c03f0622a580d2192c4a5eb7bde5c762af", func := "tribunal/tribunallaw09.BitsApplies", spec := "bitsApplies", inPlace := ["math/bits.Add64", "math/bits.Sub64"], unfollowed := true, recurses := true, named := ["math/bits.divideError", "math/bits.overflowError"], apart := false, narrowed := true }
def BitsAppliesUptoSaid : Prop := bitsAppliesUptoRow.holds Tryz.pinned (OpenSpec.upto bitsAppliesSpec)

/-- 'tribunallaw09.BitsHolds', WHERE WHAT IT READS IS OF BULK AT MOST 1048576: true; the input reads as it did. -/
def bitsHoldsUptoRow : OpenClaim := { program := "ytncomlmhagaajaagreat", sum := "5629e3f36c01d82098ab735e0abda6c03f0622a580d2192c4a5eb7bde5c762af", func := "tribunal/tribunallaw09.BitsHolds", spec := "bitsHolds", inPlace := ["math/bits.Add64", "math/bits.Sub64"], unfollowed := true, recurses := true, named := ["math/bits.divideError", "math/bits.overflowError"], apart := false, narrowed := true }
def BitsHoldsUptoSaid : Prop := bitsHoldsUptoRow.holds Tryz.pinned (OpenSpec.upto bitsHoldsSpec)

/-- 'tribunallaw09.BitsRing', WHERE WHAT IT READS IS OF BULK AT MOST 1048576: true; the input reads as it did. -/
def bitsRingUptoRow : OpenClaim := { program := "ytncomlmhagaajaagreat", sum := "5629e3f36c01d82098ab735e0abda6c03f0622a580d2192c4a5eb7bde5c762af", func := "tribunal/tribunallaw09.BitsRing", spec := "bitsRing", inPlace := ["math/bits.Add64", "math/bits.Sub64"], unfollowed := true, recurses := true, named := ["math/bits.divideError", "math/bits.overflowError"], apart := false, narrowed := true }
def BitsRingUptoSaid : Prop := bitsRingUptoRow.holds Tryz.pinned (OpenSpec.upto bitsRingSpec)

/-- 'tribunallaw09.BitsDivides', WHERE WHAT IT READS IS OF BULK AT MOST 1048576: true; the input reads as it did. -/
def bitsDividesUptoRow : OpenClaim := { program := "ytncomlmhagaajaagreat", sum := "5629e3f36c01d82098ab735e0abda6c03f0622a580d2192c4a5eb7bde5c762af", func := "tribunal/tribunallaw09.BitsDivides", spec := "bitsDivides", inPlace := ["math/bits.Add64", "math/bits.Sub64"], unfollowed := true, recurses := true, named := ["math/bits.divideError", "math/bits.overflowError"], apart := false, narrowed := true }
def BitsDividesUptoSaid : Prop := bitsDividesUptoRow.holds Tryz.pinned (OpenSpec.upto bitsDividesSpec)

/-- 'tribunallaw09.BitsOrders', WHERE WHAT IT READS IS OF BULK AT MOST 1048576: true; the input reads as it did. -/
def bitsOrdersUptoRow : OpenClaim := { program := "ytncomlmhagaajaagreat", sum := "5629e3f36c01d82098ab735e0abda6c03f0622a580d2192c4a5eb7bde5c762af", func := "tribunal/tribunallaw09.BitsOrders", spec := "bitsOrders", inPlace := ["math/bits.Add64", "math/bits.Sub64"], unfollowed := true, recurses := true, named := ["math/bits.divideError", "math/bits.overflowError"], apart := false, narrowed := true }
def BitsOrdersUptoSaid : Prop := bitsOrdersUptoRow.holds Tryz.pinned (OpenSpec.upto bitsOrdersSpec)

/-- 'tribunallaw09.BitsOwn', WHERE WHAT IT READS IS OF BULK AT MOST 1048576: true; the input reads as it did. -/
def bitsOwnUptoRow : OpenClaim := { program := "ytncomlmhagaajaagreat", sum := "5629e3f36c01d82098ab735e0abda6c03f0622a580d2192c4a5eb7bde5c762af", func := "tribunal/tribunallaw09.BitsOwn", spec := "bitsOwn", inPlace := ["math/bits.Add64", "math/bits.Sub64"], unfollowed := true, recurses := true, named := ["math/bits.divideError", "math/bits.overflowError"], apart := false, narrowed := true }
def BitsOwnUptoSaid : Prop := bitsOwnUptoRow.holds Tryz.pinned (OpenSpec.upto bitsOwnSpec)

/-- 'tribunallaw09.BitsMakes', WHERE WHAT IT READS IS OF BULK AT MOST 1048576: true; the input reads as it did. -/
def bitsMakesUptoRow : OpenClaim := { program := "ytncomlmhagaajaagreat", sum := "5629e3f36c01d82098ab735e0abda6c03f0622a580d2192c4a5eb7bde5c762af", func := "tribunal/tribunallaw09.BitsMakes", spec := "bitsMakes", inPlace := ["math/bits.Add64", "math/bits.Sub64"], unfollowed := true, recurses := true, named := ["math/bits.divideError", "math/bits.overflowError"], apart := false, narrowed := true }
def BitsMakesUptoSaid : Prop := bitsMakesUptoRow.holds Tryz.pinned (OpenSpec.upto bitsMakesSpec)

/-- 'tribunallaw09.BitsTurns', WHERE WHAT IT READS IS OF BULK AT MOST 1048576: true; the input reads as it did. -/
def bitsTurnsUptoRow : OpenClaim := { program := "ytncomlmhagaajaagreat", sum := "5629e3f36c01d82098ab735e0abda6c03f0622a580d2192c4a5eb7bde5c762af", func := "tribunal/tribunallaw09.BitsTurns", spec := "bitsTurns", inPlace := ["math/bits.Add64", "math/bits.Sub64"], unfollowed := true, recurses := true, named := ["math/bits.divideError", "math/bits.overflowError"], apart := false, narrowed := true }
def BitsTurnsUptoSaid : Prop := bitsTurnsUptoRow.holds Tryz.pinned (OpenSpec.upto bitsTurnsSpec)

end Rows
end Go.Proofs.YtncomlmhagaajaaGreat
