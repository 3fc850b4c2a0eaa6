/-
  No cell of these rows narrows 'for every input' (looked for: loops, veiled, ifaces, maps, wideKeys, modest, calm, conditions, laid).
  DERIVED. THE GIVEN ROWS OF THIS SEAT. 11 by the template 'for every input the law returns true; each argument reads behind the call as it read before'; 0 by the template 'total and deterministic' (their statements: YtbpnjpacioibnaaTotals.lean).
  GIVEN WITH THE SEED: the statements are not yours to turn. If you find one false, say at which input.
  Laid BY PROGRAM, IN A SANDBOX (cutbox-rows.mjs): the forced cells as the released guide's own fill.sh prints them over the translation de2bb8ffe3b84e4b… (all of the seat's roots in one cut). By AI agents, Wed Nov 11 2026. No macro, syntax, notation, axiom, sorry.
-/
import Derived.Test.YtbpnjpacioibnaaChecked
import GoSem.Claim
import GoSem.ClaimJoined
import GoSem.ClaimMapViews
import Derived.JoinedTies
import Derived.KernelRfl
namespace Go.Proofs.Ytbpnjpacioibnaa
/- THE CELL 'sum', in the pinned program and in every row, IS THE sha256 OF THE DUMP (.gsa) THAT YtbpnjpacioibnaaProg.lean LOADS. Nothing in Lean hashes anything: it is a label: what it is worth is what the hold of that sum in a sandbox is worth. -/
noncomputable def Try.pinned : Pinned := { name := "ytbpnjpacioibnaa", sum := "de2bb8ffe3b84e4b61ef13063cefbfec8fd78cddf931cf97facc9e47e748a796", checked := Try.checked }
namespace Rows
def none {H : Type} : Left H := { results := [], args := [] }

/-- 'tribunallaw14.SatSmall': WHATEVER THE INPUT: true; the input reads as it did. -/
def satSmallSpec : ChangeSpec := { name := "satSmall", fn := fun _ => fun
  | [d1, d2, d3] => { results := [.lit (.bool true)], args := [d1, d2, d3] }
  | _ => none }
def satSmallRow : OpenClaim := { program := "ytbpnjpacioibnaa", sum := "de2bb8ffe3b84e4b61ef13063cefbfec8fd78cddf931cf97facc9e47e748a796", func := "tribunal/tribunallaw14.SatSmall", spec := "satSmall", unfollowed := true, recurses := true, apart := false }
def SatSmallSaid : Prop := satSmallRow.holds Try.pinned (OpenSpec.ofChange satSmallSpec)

/-- ITS FALSE NEIGHBOUR: 'it returns false'. Refute it at one input. -/
def satSmallWrong : ChangeSpec := { name := "satSmall", fn := fun _ => fun
  | [d1, d2, d3] => { results := [.lit (.bool false)], args := [d1, d2, d3] }
  | _ => none }
def SatSmallWrongFalsely : Prop := satSmallRow.holds Try.pinned (OpenSpec.ofChange satSmallWrong)

/-- 'tribunallaw14.SatAgrees': WHATEVER THE INPUT: true; the input reads as it did. -/
def satAgreesSpec : ChangeSpec := { name := "satAgrees", fn := fun _ => fun
  | [d1, d2, d3, d4] => { results := [.lit (.bool true)], args := [d1, d2, d3, d4] }
  | _ => none }
def satAgreesRow : OpenClaim := { program := "ytbpnjpacioibnaa", sum := "de2bb8ffe3b84e4b61ef13063cefbfec8fd78cddf931cf97facc9e47e748a796", func := "tribunal/tribunallaw14.SatAgrees", spec := "satAgrees", unfollowed := true, recurses := true, apart := false }
def SatAgreesSaid : Prop := satAgreesRow.holds Try.pinned (OpenSpec.ofChange satAgreesSpec)

/-- ITS FALSE NEIGHBOUR: 'it returns false'. Refute it at one input. -/
def satAgreesWrong : ChangeSpec := { name := "satAgrees", fn := fun _ => fun
  | [d1, d2, d3, d4] => { results := [.lit (.bool false)], args := [d1, d2, d3, d4] }
  | _ => none }
def SatAgreesWrongFalsely : Prop := satAgreesRow.holds Try.pinned (OpenSpec.ofChange satAgreesWrong)

/-- 'tribunallaw14.SatOwn': WHATEVER THE INPUT: true; the input reads as it did. -/
def satOwnSpec : ChangeSpec := { name := "satOwn", fn := fun _ => fun
  | [d1, d2] => { results := [.lit (.bool true)], args := [d1, d2] }
  | _ => none }
def satOwnRow : OpenClaim := { program := "ytbpnjpacioibnaa", sum := "de2bb8ffe3b84e4b61ef13063cefbfec8fd78cddf931cf97facc9e47e748a796", func := "tribunal/tribunallaw14.SatOwn", spec := "satOwn", unfollowed := true, recurses := true, apart := false }
def SatOwnSaid : Prop := satOwnRow.holds Try.pinned (OpenSpec.ofChange satOwnSpec)

/-- ITS FALSE NEIGHBOUR: 'it returns false'. Refute it at one input. -/
def satOwnWrong : ChangeSpec := { name := "satOwn", fn := fun _ => fun
  | [d1, d2] => { results := [.lit (.bool false)], args := [d1, d2] }
  | _ => none }
def SatOwnWrongFalsely : Prop := satOwnRow.holds Try.pinned (OpenSpec.ofChange satOwnWrong)

/-- 'tribunallaw14.SatAnswers': WHATEVER THE INPUT: true; the input reads as it did. -/
def satAnswersSpec : ChangeSpec := { name := "satAnswers", fn := fun _ => fun
  | [d1, d2, d3] => { results := [.lit (.bool true)], args := [d1, d2, d3] }
  | _ => none }
def satAnswersRow : OpenClaim := { program := "ytbpnjpacioibnaa", sum := "de2bb8ffe3b84e4b61ef13063cefbfec8fd78cddf931cf97facc9e47e748a796", func := "tribunal/tribunallaw14.SatAnswers", spec := "satAnswers", unfollowed := true, recurses := true, apart := false }
def SatAnswersSaid : Prop := satAnswersRow.holds Try.pinned (OpenSpec.ofChange satAnswersSpec)

/-- ITS FALSE NEIGHBOUR: 'it returns false'. Refute it at one input. -/
def satAnswersWrong : ChangeSpec := { name := "satAnswers", fn := fun _ => fun
  | [d1, d2, d3] => { results := [.lit (.bool false)], args := [d1, d2, d3] }
  | _ => none }
def SatAnswersWrongFalsely : Prop := satAnswersRow.holds Try.pinned (OpenSpec.ofChange satAnswersWrong)

/-- 'tribunallaw14.SatHolds': WHATEVER THE INPUT: true; the input reads as it did. -/
def satHoldsSpec : ChangeSpec := { name := "satHolds", fn := fun _ => fun
  | [d1, d2] => { results := [.lit (.bool true)], args := [d1, d2] }
  | _ => none }
def satHoldsRow : OpenClaim := { program := "ytbpnjpacioibnaa", sum := "de2bb8ffe3b84e4b61ef13063cefbfec8fd78cddf931cf97facc9e47e748a796", func := "tribunal/tribunallaw14.SatHolds", spec := "satHolds", unfollowed := true, recurses := true, apart := false }
def SatHoldsSaid : Prop := satHoldsRow.holds Try.pinned (OpenSpec.ofChange satHoldsSpec)

/-- ITS FALSE NEIGHBOUR: 'it returns false'. Refute it at one input. -/
def satHoldsWrong : ChangeSpec := { name := "satHolds", fn := fun _ => fun
  | [d1, d2] => { results := [.lit (.bool false)], args := [d1, d2] }
  | _ => none }
def SatHoldsWrongFalsely : Prop := satHoldsRow.holds Try.pinned (OpenSpec.ofChange satHoldsWrong)

/-- 'tribunallaw14.SatProofs': WHATEVER THE INPUT: true; the input reads as it did. -/
def satProofsSpec : ChangeSpec := { name := "satProofs", fn := fun _ => fun
  | [d1, d2] => { results := [.lit (.bool true)], args := [d1, d2] }
  | _ => none }
def satProofsRow : OpenClaim := { program := "ytbpnjpacioibnaa", sum := "de2bb8ffe3b84e4b61ef13063cefbfec8fd78cddf931cf97facc9e47e748a796", func := "tribunal/tribunallaw14.SatProofs", spec := "satProofs", unfollowed := true, recurses := true, apart := false }
def SatProofsSaid : Prop := satProofsRow.holds Try.pinned (OpenSpec.ofChange satProofsSpec)

/-- ITS FALSE NEIGHBOUR: 'it returns false'. Refute it at one input. -/
def satProofsWrong : ChangeSpec := { name := "satProofs", fn := fun _ => fun
  | [d1, d2] => { results := [.lit (.bool false)], args := [d1, d2] }
  | _ => none }
def SatProofsWrongFalsely : Prop := satProofsRow.holds Try.pinned (OpenSpec.ofChange satProofsWrong)

/-- 'tribunallaw14.SatAgain': WHATEVER THE INPUT: true; the input reads as it did. -/
def satAgainSpec : ChangeSpec := { name := "satAgain", fn := fun _ => fun
  | [d1, d2] => { results := [.lit (.bool true)], args := [d1, d2] }
  | _ => none }
def satAgainRow : OpenClaim := { program := "ytbpnjpacioibnaa", sum := "de2bb8ffe3b84e4b61ef13063cefbfec8fd78cddf931cf97facc9e47e748a796", func := "tribunal/tribunallaw14.SatAgain", spec := "satAgain", unfollowed := true, recurses := true, apart := false }
def SatAgainSaid : Prop := satAgainRow.holds Try.pinned (OpenSpec.ofChange satAgainSpec)

/-- ITS FALSE NEIGHBOUR: 'it returns false'. Refute it at one input. -/
def satAgainWrong : ChangeSpec := { name := "satAgain", fn := fun _ => fun
  | [d1, d2] => { results := [.lit (.bool false)], args := [d1, d2] }
  | _ => none }
def SatAgainWrongFalsely : Prop := satAgainRow.holds Try.pinned (OpenSpec.ofChange satAgainWrong)

/-- 'tribunallaw14.SatNils': WHATEVER THE INPUT: true; the input reads as it did. -/
def satNilsSpec : ChangeSpec := { name := "satNils", fn := fun _ => fun
  | [d1, d2] => { results := [.lit (.bool true)], args := [d1, d2] }
  | _ => none }
def satNilsRow : OpenClaim := { program := "ytbpnjpacioibnaa", sum := "de2bb8ffe3b84e4b61ef13063cefbfec8fd78cddf931cf97facc9e47e748a796", func := "tribunal/tribunallaw14.SatNils", spec := "satNils", unfollowed := true, recurses := true, apart := false }
def SatNilsSaid : Prop := satNilsRow.holds Try.pinned (OpenSpec.ofChange satNilsSpec)

/-- ITS FALSE NEIGHBOUR: 'it returns false'. Refute it at one input. -/
def satNilsWrong : ChangeSpec := { name := "satNils", fn := fun _ => fun
  | [d1, d2] => { results := [.lit (.bool false)], args := [d1, d2] }
  | _ => none }
def SatNilsWrongFalsely : Prop := satNilsRow.holds Try.pinned (OpenSpec.ofChange satNilsWrong)

/-- 'tribunallaw14.SatFollows': WHATEVER THE INPUT: true; the input reads as it did. -/
def satFollowsSpec : ChangeSpec := { name := "satFollows", fn := fun _ => fun
  | [d1, d2] => { results := [.lit (.bool true)], args := [d1, d2] }
  | _ => none }
def satFollowsRow : OpenClaim := { program := "ytbpnjpacioibnaa", sum := "de2bb8ffe3b84e4b61ef13063cefbfec8fd78cddf931cf97facc9e47e748a796", func := "tribunal/tribunallaw14.SatFollows", spec := "satFollows", unfollowed := true, recurses := true, apart := false }
def SatFollowsSaid : Prop := satFollowsRow.holds Try.pinned (OpenSpec.ofChange satFollowsSpec)

/-- ITS FALSE NEIGHBOUR: 'it returns false'. Refute it at one input. -/
def satFollowsWrong : ChangeSpec := { name := "satFollows", fn := fun _ => fun
  | [d1, d2] => { results := [.lit (.bool false)], args := [d1, d2] }
  | _ => none }
def SatFollowsWrongFalsely : Prop := satFollowsRow.holds Try.pinned (OpenSpec.ofChange satFollowsWrong)

/-- 'tribunallaw14.SatSound': WHATEVER THE INPUT: true; the input reads as it did. -/
def satSoundSpec : ChangeSpec := { name := "satSound", fn := fun _ => fun
  | [d1, d2, d3] => { results := [.lit (.bool true)], args := [d1, d2, d3] }
  | _ => none }
def satSoundRow : OpenClaim := { program := "ytbpnjpacioibnaa", sum := "de2bb8ffe3b84e4b61ef13063cefbfec8fd78cddf931cf97facc9e47e748a796", func := "tribunal/tribunallaw14.SatSound", spec := "satSound", unfollowed := true, recurses := true, apart := false }
def SatSoundSaid : Prop := satSoundRow.holds Try.pinned (OpenSpec.ofChange satSoundSpec)

/-- ITS FALSE NEIGHBOUR: 'it returns false'. Refute it at one input. -/
def satSoundWrong : ChangeSpec := { name := "satSound", fn := fun _ => fun
  | [d1, d2, d3] => { results := [.lit (.bool false)], args := [d1, d2, d3] }
  | _ => none }
def SatSoundWrongFalsely : Prop := satSoundRow.holds Try.pinned (OpenSpec.ofChange satSoundWrong)

/-- 'tribunallaw14.SatPropagates': WHATEVER THE INPUT: true; the input reads as it did. -/
def satPropagatesSpec : ChangeSpec := { name := "satPropagates", fn := fun _ => fun
  | [d1, d2] => { results := [.lit (.bool true)], args := [d1, d2] }
  | _ => none }
def satPropagatesRow : OpenClaim := { program := "ytbpnjpacioibnaa", sum := "de2bb8ffe3b84e4b61ef13063cefbfec8fd78cddf931cf97facc9e47e748a796", func := "tribunal/tribunallaw14.SatPropagates", spec := "satPropagates", unfollowed := true, recurses := true, apart := false }
def SatPropagatesSaid : Prop := satPropagatesRow.holds Try.pinned (OpenSpec.ofChange satPropagatesSpec)

/-- ITS FALSE NEIGHBOUR: 'it returns false'. Refute it at one input. -/
def satPropagatesWrong : ChangeSpec := { name := "satPropagates", fn := fun _ => fun
  | [d1, d2] => { results := [.lit (.bool false)], args := [d1, d2] }
  | _ => none }
def SatPropagatesWrongFalsely : Prop := satPropagatesRow.holds Try.pinned (OpenSpec.ofChange satPropagatesWrong)

/- THE SECOND FORM. 'bulk': how many values and letters a reading holds, each counted each time it is reached (what is shared counts as often as it is met; a slice's spare places count too). A statement '..UptoSaid' is the law's where the arguments, and the package variables that the reading takes, are together of bulk at most 1048576: NARROWER than '..Said'. Prove '..Said' where nothing that the law and all that it calls make is longer than what came in: it says more and counts as full. Else prove '..UptoSaid'. A law counts once. -/
mutual
def uptoBulk {H : Type} : DataW H → Nat
  | .lit (.string bytes) => bytes.length + 1
  | .lit _ => 1
  | .nil => 1
  | .ptr d => uptoBulk d + 1
  | .slice elems spare => uptoBulkAll elems + uptoBulkAll spare + 1
  | .agg parts => uptoBulkAll parts + 1
  | .iface _ d => uptoBulk d + 1
  | .map entries => uptoBulkEntries entries + 1
  | .held _ => 1
def uptoBulkAll {H : Type} : List (DataW H) → Nat
  | [] => 0
  | d :: r => uptoBulk d + uptoBulkAll r
def uptoBulkEntries {H : Type} : List (Lit × DataW H) → Nat
  | [] => 0
  | x :: r => uptoBulkEntry x + uptoBulkEntries r
def uptoBulkEntry {H : Type} : Lit × DataW H → Nat
  | (.string bytes, d) => bytes.length + uptoBulk d + 1
  | (_, d) => uptoBulk d + 1
 end
def uptoSmall : (H : Type) → List (DataW H) → Bool := fun _ ds => decide (uptoBulkAll ds ≤ 1048576)
def OpenSpec.upto (s : _root_.Go.ChangeSpec) : _root_.Go.OpenSpec := { _root_.Go.OpenSpec.ofChange s with cond := some uptoSmall }

/-- 'tribunallaw14.SatSmall', WHERE WHAT IT READS IS OF BULK AT MOST 1048576: true; the input reads as it did. -/
def satSmallUptoRow : OpenClaim := { program := "ytbpnjpacioibnaa", sum := "de2bb8ffe3b84e4b61ef13063cefbfec8fd78cddf931cf97facc9e47e748a796", func := "tribunal/tribunallaw14.SatSmall", spec := "satSmall", unfollowed := true, recurses := true, apart := false, narrowed := true }
def SatSmallUptoSaid : Prop := satSmallUptoRow.holds Try.pinned (OpenSpec.upto satSmallSpec)

/-- 'tribunallaw14.SatAgrees', WHERE WHAT IT READS IS OF BULK AT MOST 1048576: true; the input reads as it did. -/
def satAgreesUptoRow : OpenClaim := { program := "ytbpnjpacioibnaa", sum := "de2bb8ffe3b84e4b61ef13063cefbfec8fd78cddf931cf97facc9e47e748a796", func := "tribunal/tribunallaw14.SatAgrees", spec := "satAgrees", unfollowed := true, recurses := true, apart := false, narrowed := true }
def SatAgreesUptoSaid : Prop := satAgreesUptoRow.holds Try.pinned (OpenSpec.upto satAgreesSpec)

/-- 'tribunallaw14.SatOwn', WHERE WHAT IT READS IS OF BULK AT MOST 1048576: true; the input reads as it did. -/
def satOwnUptoRow : OpenClaim := { program := "ytbpnjpacioibnaa", sum := "de2bb8ffe3b84e4b61ef13063cefbfec8fd78cddf931cf97facc9e47e748a796", func := "tribunal/tribunallaw14.SatOwn", spec := "satOwn", unfollowed := true, recurses := true, apart := false, narrowed := true }
def SatOwnUptoSaid : Prop := satOwnUptoRow.holds Try.pinned (OpenSpec.upto satOwnSpec)

/-- 'tribunallaw14.SatAnswers', WHERE WHAT IT READS IS OF BULK AT MOST 1048576: true; the input reads as it did. -/
def satAnswersUptoRow : OpenClaim := { program := "ytbpnjpacioibnaa", sum := "de2bb8ffe3b84e4b61ef13063cefbfec8fd78cddf931cf97facc9e47e748a796", func := "tribunal/tribunallaw14.SatAnswers", spec := "satAnswers", unfollowed := true, recurses := true, apart := false, narrowed := true }
def SatAnswersUptoSaid : Prop := satAnswersUptoRow.holds Try.pinned (OpenSpec.upto satAnswersSpec)

/-- 'tribunallaw14.SatHolds', WHERE WHAT IT READS IS OF BULK AT MOST 1048576: true; the input reads as it did. -/
def satHoldsUptoRow : OpenClaim := { program := "ytbpnjpacioibnaa", sum := "de2bb8ffe3b84e4b61ef13063cefbfec8fd78cddf931cf97facc9e47e748a796", func := "tribunal/tribunallaw14.SatHolds", spec := "satHolds", unfollowed := true, recurses := true, apart := false, narrowed := true }
def SatHoldsUptoSaid : Prop := satHoldsUptoRow.holds Try.pinned (OpenSpec.upto satHoldsSpec)

/-- 'tribunallaw14.SatProofs', WHERE WHAT IT READS IS OF BULK AT MOST 1048576: true; the input reads as it did. -/
def satProofsUptoRow : OpenClaim := { program := "ytbpnjpacioibnaa", sum := "de2bb8ffe3b84e4b61ef13063cefbfec8fd78cddf931cf97facc9e47e748a796", func := "tribunal/tribunallaw14.SatProofs", spec := "satProofs", unfollowed := true, recurses := true, apart := false, narrowed := true }
def SatProofsUptoSaid : Prop := satProofsUptoRow.holds Try.pinned (OpenSpec.upto satProofsSpec)

/-- 'tribunallaw14.SatAgain', WHERE WHAT IT READS IS OF BULK AT MOST 1048576: true; the input reads as it did. -/
def satAgainUptoRow : OpenClaim := { program := "ytbpnjpacioibnaa", sum := "de2bb8ffe3b84e4b61ef13063cefbfec8fd78cddf931cf97facc9e47e748a796", func := "tribunal/tribunallaw14.SatAgain", spec := "satAgain", unfollowed := true, recurses := true, apart := false, narrowed := true }
def SatAgainUptoSaid : Prop := satAgainUptoRow.holds Try.pinned (OpenSpec.upto satAgainSpec)

/-- 'tribunallaw14.SatNils', WHERE WHAT IT READS IS OF BULK AT MOST 1048576: true; the input reads as it did. -/
def satNilsUptoRow : OpenClaim := { program := "ytbpnjpacioibnaa", sum := "de2bb8ffe3b84e4b61ef13063cefbfec8fd78cddf931cf97facc9e47e748a796", func := "tribunal/tribunallaw14.SatNils", spec := "satNils", unfollowed := true, recurses := true, apart := false, narrowed := true }
def SatNilsUptoSaid : Prop := satNilsUptoRow.holds Try.pinned (OpenSpec.upto satNilsSpec)

/-- 'tribunallaw14.SatFollows', WHERE WHAT IT READS IS OF BULK AT MOST 1048576: true; the input reads as it did. -/
def satFollowsUptoRow : OpenClaim := { program := "ytbpnjpacioibnaa", sum := "de2bb8ffe3b84e4b61ef13063cefbfec8fd78cddf931cf97facc9e47e748a796", func := "tribunal/tribunallaw14.SatFollows", spec := "satFollows", unfollowed := true, recurses := true, apart := false, narrowed := true }
def SatFollowsUptoSaid : Prop := satFollowsUptoRow.holds Try.pinned (OpenSpec.upto satFollowsSpec)

/-- 'tribunallaw14.SatSound', WHERE WHAT IT READS IS OF BULK AT MOST 1048576: true; the input reads as it did. -/
def satSoundUptoRow : OpenClaim := { program := "ytbpnjpacioibnaa", sum := "de2bb8ffe3b84e4b61ef13063cefbfec8fd78cddf931cf97facc9e47e748a796", func := "tribunal/tribunallaw14.SatSound", spec := "satSound", unfollowed := true, recurses := true, apart := false, narrowed := true }
def SatSoundUptoSaid : Prop := satSoundUptoRow.holds Try.pinned (OpenSpec.upto satSoundSpec)

/-- 'tribunallaw14.SatPropagates', WHERE WHAT IT READS IS OF BULK AT MOST 1048576: true; the input reads as it did. -/
def satPropagatesUptoRow : OpenClaim := { program := "ytbpnjpacioibnaa", sum := "de2bb8ffe3b84e4b61ef13063cefbfec8fd78cddf931cf97facc9e47e748a796", func := "tribunal/tribunallaw14.SatPropagates", spec := "satPropagates", unfollowed := true, recurses := true, apart := false, narrowed := true }
def SatPropagatesUptoSaid : Prop := satPropagatesUptoRow.holds Try.pinned (OpenSpec.upto satPropagatesSpec)

end Rows
end Go.Proofs.Ytbpnjpacioibnaa
