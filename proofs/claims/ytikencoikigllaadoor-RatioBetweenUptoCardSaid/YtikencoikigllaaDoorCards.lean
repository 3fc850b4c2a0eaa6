/-
  DERIVED. GIVEN WITH THE SEED: THE CARDS: each row of YtikencoikigllaaDoorRows.lean that lists a variable, with what it lists TIED to the program's text (the seventh form; the later family's looks); each row that meets fmt, with fmt's text TOLD by the authors' own Lean function (tested against real Go, not proved from fmt's source: count such statements apart). THE CARD IS WHAT COUNTS. Prove the row's statement (the work); the ties are given (YtikencoikigllaaDoorTie.lean); close each card by the builder's one call (the guide's Derived/Test/ToyasCard.lean, 'card_holds'). Laid BY PROGRAM, IN A SANDBOX (cutbox-door.mjs). By AI agents, Wed Nov 11 2026. No macro, syntax, notation, axiom, sorry.
-/
import Derived.Test.YtikencoikigllaaDoorRows
import GoSem.ClaimSeven
namespace Go.Proofs.YtikencoikigllaaDoor
namespace Rows

/-- THE TIED CARD OF 'tribunallaw02.WholeOwn'. -/
def wholeOwnCard : Claim7 := { stood := { row := wholeOwnRow, standIns := [], harness := (true, "dd07a3b06bd939c04892200e66a3e2cedad2dec6aa245129c1ff725a3c426bce"), looks := false }, kinds := [], alts := [], laidByText := true, laidKinds := [.data, .data, .data], laidTests := true, laidLooks := .later }
def WholeOwnCardSaid : Prop := Claim7.holds Tryd.pinned (.plain (OpenSpec.ofChange wholeOwnSpec)) wholeOwnCard

/-- THE TIED CARD OF 'tribunallaw03.RatioOrders'. -/
def ratioOrdersCard : Claim7 := { stood := { row := ratioOrdersRow, standIns := [], harness := (true, "dd07a3b06bd939c04892200e66a3e2cedad2dec6aa245129c1ff725a3c426bce"), looks := false }, kinds := [], alts := [], laidByText := true, laidKinds := [.data, .data, .data], laidTests := true, laidLooks := .later }
def RatioOrdersCardSaid : Prop := Claim7.holds Tryd.pinned (.plain (OpenSpec.ofChange ratioOrdersSpec)) ratioOrdersCard

/-- THE TIED CARD OF 'tribunallaw03.RatioLaws'. -/
def ratioLawsCard : Claim7 := { stood := { row := ratioLawsRow, standIns := [], harness := (true, "dd07a3b06bd939c04892200e66a3e2cedad2dec6aa245129c1ff725a3c426bce"), looks := false }, kinds := [], alts := [], laidByText := true, laidKinds := [.data, .data, .data], laidTests := true, laidLooks := .later }
def RatioLawsCardSaid : Prop := Claim7.holds Tryd.pinned (.plain (OpenSpec.ofChange ratioLawsSpec)) ratioLawsCard

/-- THE TIED CARD OF 'tribunallaw03.RatioBetween'. -/
def ratioBetweenCard : Claim7 := { stood := { row := ratioBetweenRow, standIns := [], harness := (true, "dd07a3b06bd939c04892200e66a3e2cedad2dec6aa245129c1ff725a3c426bce"), looks := false }, kinds := [], alts := [], laidByText := true, laidKinds := [.data, .data, .data], laidTests := true, laidLooks := .later }
def RatioBetweenCardSaid : Prop := Claim7.holds Tryd.pinned (.plain (OpenSpec.ofChange ratioBetweenSpec)) ratioBetweenCard

/-- THE SECOND FORM's CARD OF 'tribunallaw02.WholeOwn'. -/
def wholeOwnUptoCard : Claim7 := { stood := { row := wholeOwnUptoRow, standIns := [], harness := (true, "dd07a3b06bd939c04892200e66a3e2cedad2dec6aa245129c1ff725a3c426bce"), looks := false }, kinds := [], alts := [], laidByText := true, laidKinds := [.data, .data, .data], laidTests := true, laidLooks := .later }
def WholeOwnUptoCardSaid : Prop := Claim7.holds Tryd.pinned (.plain (OpenSpec.upto wholeOwnSpec)) wholeOwnUptoCard

/-- THE SECOND FORM's CARD OF 'tribunallaw03.RatioOrders'. -/
def ratioOrdersUptoCard : Claim7 := { stood := { row := ratioOrdersUptoRow, standIns := [], harness := (true, "dd07a3b06bd939c04892200e66a3e2cedad2dec6aa245129c1ff725a3c426bce"), looks := false }, kinds := [], alts := [], laidByText := true, laidKinds := [.data, .data, .data], laidTests := true, laidLooks := .later }
def RatioOrdersUptoCardSaid : Prop := Claim7.holds Tryd.pinned (.plain (OpenSpec.upto ratioOrdersSpec)) ratioOrdersUptoCard

/-- THE SECOND FORM's CARD OF 'tribunallaw03.RatioLaws'. -/
def ratioLawsUptoCard : Claim7 := { stood := { row := ratioLawsUptoRow, standIns := [], harness := (true, "dd07a3b06bd939c04892200e66a3e2cedad2dec6aa245129c1ff725a3c426bce"), looks := false }, kinds := [], alts := [], laidByText := true, laidKinds := [.data, .data, .data], laidTests := true, laidLooks := .later }
def RatioLawsUptoCardSaid : Prop := Claim7.holds Tryd.pinned (.plain (OpenSpec.upto ratioLawsSpec)) ratioLawsUptoCard

/-- THE SECOND FORM's CARD OF 'tribunallaw03.RatioBetween'. -/
def ratioBetweenUptoCard : Claim7 := { stood := { row := ratioBetweenUptoRow, standIns := [], harness := (true, "dd07a3b06bd939c04892200e66a3e2cedad2dec6aa245129c1ff725a3c426bce"), looks := false }, kinds := [], alts := [], laidByText := true, laidKinds := [.data, .data, .data], laidTests := true, laidLooks := .later }
def RatioBetweenUptoCardSaid : Prop := Claim7.holds Tryd.pinned (.plain (OpenSpec.upto ratioBetweenSpec)) ratioBetweenUptoCard
end Rows
end Go.Proofs.YtikencoikigllaaDoor
