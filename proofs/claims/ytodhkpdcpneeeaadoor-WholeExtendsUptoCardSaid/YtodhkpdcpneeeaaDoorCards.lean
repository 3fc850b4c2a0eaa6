/-
  DERIVED. GIVEN WITH THE SEED: THE CARDS: each row of YtodhkpdcpneeeaaDoorRows.lean that lists a variable, with what it lists TIED to the program's text (the seventh form; the later family's looks); each row that meets fmt, with fmt's text TOLD by the authors' own Lean function (tested against real Go, not proved from fmt's source: count such statements apart). THE CARD IS WHAT COUNTS. Prove the row's statement (the work); the ties are given (YtodhkpdcpneeeaaDoorTie.lean); close each card by the builder's one call (the guide's Derived/Test/ToyasCard.lean, 'card_holds'). Laid BY PROGRAM, IN A SANDBOX (cutbox-door.mjs). By AI agents, Wed Nov 11 2026. No macro, syntax, notation, axiom, sorry.
-/
import Derived.Test.YtodhkpdcpneeeaaDoorRows
import GoSem.ClaimSeven
namespace Go.Proofs.YtodhkpdcpneeeaaDoor
namespace Rows

/-- THE TIED CARD OF 'tribunallaw02.WholeDivMods'. -/
def wholeDivModsCard : Claim7 := { stood := { row := wholeDivModsRow, standIns := [], harness := (true, "61195fa2b9cd2b868b65f2b1f59985bea90502d20f6ce58baad202c680356f47"), looks := false }, kinds := [], alts := [], laidByText := true, laidKinds := [.data, .data, .data], laidTests := true, laidLooks := .later }
def WholeDivModsCardSaid : Prop := Claim7.holds Tryd.pinned (.plain (OpenSpec.ofChange wholeDivModsSpec)) wholeDivModsCard

/-- THE TIED CARD OF 'tribunallaw02.WholePrints'. -/
def wholePrintsCard : Claim7 := { stood := { row := wholePrintsRow, standIns := [], harness := (true, "61195fa2b9cd2b868b65f2b1f59985bea90502d20f6ce58baad202c680356f47"), looks := false }, kinds := [], alts := [], laidByText := true, laidKinds := [.data, .data, .data], laidTests := true, laidLooks := .later }
def WholePrintsCardSaid : Prop := Claim7.holds Tryd.pinned (.plain (OpenSpec.ofChange wholePrintsSpec)) wholePrintsCard

/-- THE TIED CARD OF 'tribunallaw02.WholeQuos'. -/
def wholeQuosCard : Claim7 := { stood := { row := wholeQuosRow, standIns := [], harness := (true, "61195fa2b9cd2b868b65f2b1f59985bea90502d20f6ce58baad202c680356f47"), looks := false }, kinds := [], alts := [], laidByText := true, laidKinds := [.data, .data, .data], laidTests := true, laidLooks := .later }
def WholeQuosCardSaid : Prop := Claim7.holds Tryd.pinned (.plain (OpenSpec.ofChange wholeQuosSpec)) wholeQuosCard

/-- THE TIED CARD OF 'tribunallaw02.WholeAdds'. -/
def wholeAddsCard : Claim7 := { stood := { row := wholeAddsRow, standIns := [], harness := (true, "61195fa2b9cd2b868b65f2b1f59985bea90502d20f6ce58baad202c680356f47"), looks := false }, kinds := [], alts := [], laidByText := true, laidKinds := [.data, .data, .data], laidTests := true, laidLooks := .later }
def WholeAddsCardSaid : Prop := Claim7.holds Tryd.pinned (.plain (OpenSpec.ofChange wholeAddsSpec)) wholeAddsCard

/-- THE TIED CARD OF 'tribunallaw02.WholeOrders'. -/
def wholeOrdersCard : Claim7 := { stood := { row := wholeOrdersRow, standIns := [], harness := (true, "61195fa2b9cd2b868b65f2b1f59985bea90502d20f6ce58baad202c680356f47"), looks := false }, kinds := [], alts := [], laidByText := true, laidKinds := [.data, .data, .data], laidTests := true, laidLooks := .later }
def WholeOrdersCardSaid : Prop := Claim7.holds Tryd.pinned (.plain (OpenSpec.ofChange wholeOrdersSpec)) wholeOrdersCard

/-- THE TIED CARD OF 'tribunallaw02.WholeSums'. -/
def wholeSumsCard : Claim7 := { stood := { row := wholeSumsRow, standIns := [], harness := (true, "61195fa2b9cd2b868b65f2b1f59985bea90502d20f6ce58baad202c680356f47"), looks := false }, kinds := [], alts := [], laidByText := true, laidKinds := [.data, .data, .data], laidTests := true, laidLooks := .later }
def WholeSumsCardSaid : Prop := Claim7.holds Tryd.pinned (.plain (OpenSpec.ofChange wholeSumsSpec)) wholeSumsCard

/-- THE TIED CARD OF 'tribunallaw02.WholeForms'. -/
def wholeFormsCard : Claim7 := { stood := { row := wholeFormsRow, standIns := [], harness := (true, "61195fa2b9cd2b868b65f2b1f59985bea90502d20f6ce58baad202c680356f47"), looks := false }, kinds := [], alts := [], laidByText := true, laidKinds := [.data, .data, .data], laidTests := true, laidLooks := .later }
def WholeFormsCardSaid : Prop := Claim7.holds Tryd.pinned (.plain (OpenSpec.ofChange wholeFormsSpec)) wholeFormsCard

/-- THE TIED CARD OF 'tribunallaw02.WholeRounds'. -/
def wholeRoundsCard : Claim7 := { stood := { row := wholeRoundsRow, standIns := [], harness := (true, "61195fa2b9cd2b868b65f2b1f59985bea90502d20f6ce58baad202c680356f47"), looks := false }, kinds := [], alts := [], laidByText := true, laidKinds := [.data, .data, .data], laidTests := true, laidLooks := .later }
def WholeRoundsCardSaid : Prop := Claim7.holds Tryd.pinned (.plain (OpenSpec.ofChange wholeRoundsSpec)) wholeRoundsCard

/-- THE TIED CARD OF 'tribunallaw02.WholeMuls'. -/
def wholeMulsCard : Claim7 := { stood := { row := wholeMulsRow, standIns := [], harness := (true, "61195fa2b9cd2b868b65f2b1f59985bea90502d20f6ce58baad202c680356f47"), looks := false }, kinds := [], alts := [], laidByText := true, laidKinds := [.data, .data, .data], laidTests := true, laidLooks := .later }
def WholeMulsCardSaid : Prop := Claim7.holds Tryd.pinned (.plain (OpenSpec.ofChange wholeMulsSpec)) wholeMulsCard

/-- THE TIED CARD OF 'tribunallaw02.WholeDivides'. -/
def wholeDividesCard : Claim7 := { stood := { row := wholeDividesRow, standIns := [], harness := (true, "61195fa2b9cd2b868b65f2b1f59985bea90502d20f6ce58baad202c680356f47"), looks := false }, kinds := [], alts := [], laidByText := true, laidKinds := [.data, .data, .data], laidTests := true, laidLooks := .later }
def WholeDividesCardSaid : Prop := Claim7.holds Tryd.pinned (.plain (OpenSpec.ofChange wholeDividesSpec)) wholeDividesCard

/-- THE TIED CARD OF 'tribunallaw02.WholeRing'. -/
def wholeRingCard : Claim7 := { stood := { row := wholeRingRow, standIns := [], harness := (true, "61195fa2b9cd2b868b65f2b1f59985bea90502d20f6ce58baad202c680356f47"), looks := false }, kinds := [], alts := [], laidByText := true, laidKinds := [.data, .data, .data], laidTests := true, laidLooks := .later }
def WholeRingCardSaid : Prop := Claim7.holds Tryd.pinned (.plain (OpenSpec.ofChange wholeRingSpec)) wholeRingCard

/-- THE TIED CARD OF 'tribunallaw02.WholeExtends'. -/
def wholeExtendsCard : Claim7 := { stood := { row := wholeExtendsRow, standIns := [], harness := (true, "61195fa2b9cd2b868b65f2b1f59985bea90502d20f6ce58baad202c680356f47"), looks := false }, kinds := [], alts := [], laidByText := true, laidKinds := [.data, .data, .data], laidTests := true, laidLooks := .later }
def WholeExtendsCardSaid : Prop := Claim7.holds Tryd.pinned (.plain (OpenSpec.ofChange wholeExtendsSpec)) wholeExtendsCard

/-- THE TIED CARD OF 'tribunallaw02.WholeNear'. -/
def wholeNearCard : Claim7 := { stood := { row := wholeNearRow, standIns := [], harness := (true, "61195fa2b9cd2b868b65f2b1f59985bea90502d20f6ce58baad202c680356f47"), looks := false }, kinds := [], alts := [], laidByText := true, laidKinds := [.data, .data, .data], laidTests := true, laidLooks := .later }
def WholeNearCardSaid : Prop := Claim7.holds Tryd.pinned (.plain (OpenSpec.ofChange wholeNearSpec)) wholeNearCard

/-- THE TIED CARD OF 'tribunallaw02.WholeOwn'. -/
def wholeOwnCard : Claim7 := { stood := { row := wholeOwnRow, standIns := [], harness := (true, "61195fa2b9cd2b868b65f2b1f59985bea90502d20f6ce58baad202c680356f47"), looks := false }, kinds := [], alts := [], laidByText := true, laidKinds := [.data, .data, .data], laidTests := true, laidLooks := .later }
def WholeOwnCardSaid : Prop := Claim7.holds Tryd.pinned (.plain (OpenSpec.ofChange wholeOwnSpec)) wholeOwnCard

/-- THE TIED CARD OF 'tribunallaw02.WholeBezout'. -/
def wholeBezoutCard : Claim7 := { stood := { row := wholeBezoutRow, standIns := [], harness := (true, "61195fa2b9cd2b868b65f2b1f59985bea90502d20f6ce58baad202c680356f47"), looks := false }, kinds := [], alts := [], laidByText := true, laidKinds := [.data, .data, .data], laidTests := true, laidLooks := .later }
def WholeBezoutCardSaid : Prop := Claim7.holds Tryd.pinned (.plain (OpenSpec.ofChange wholeBezoutSpec)) wholeBezoutCard

/-- THE SECOND FORM's CARD OF 'tribunallaw02.WholeDivMods'. -/
def wholeDivModsUptoCard : Claim7 := { stood := { row := wholeDivModsUptoRow, standIns := [], harness := (true, "61195fa2b9cd2b868b65f2b1f59985bea90502d20f6ce58baad202c680356f47"), looks := false }, kinds := [], alts := [], laidByText := true, laidKinds := [.data, .data, .data], laidTests := true, laidLooks := .later }
def WholeDivModsUptoCardSaid : Prop := Claim7.holds Tryd.pinned (.plain (OpenSpec.upto wholeDivModsSpec)) wholeDivModsUptoCard

/-- THE SECOND FORM's CARD OF 'tribunallaw02.WholePrints'. -/
def wholePrintsUptoCard : Claim7 := { stood := { row := wholePrintsUptoRow, standIns := [], harness := (true, "61195fa2b9cd2b868b65f2b1f59985bea90502d20f6ce58baad202c680356f47"), looks := false }, kinds := [], alts := [], laidByText := true, laidKinds := [.data, .data, .data], laidTests := true, laidLooks := .later }
def WholePrintsUptoCardSaid : Prop := Claim7.holds Tryd.pinned (.plain (OpenSpec.upto wholePrintsSpec)) wholePrintsUptoCard

/-- THE SECOND FORM's CARD OF 'tribunallaw02.WholeQuos'. -/
def wholeQuosUptoCard : Claim7 := { stood := { row := wholeQuosUptoRow, standIns := [], harness := (true, "61195fa2b9cd2b868b65f2b1f59985bea90502d20f6ce58baad202c680356f47"), looks := false }, kinds := [], alts := [], laidByText := true, laidKinds := [.data, .data, .data], laidTests := true, laidLooks := .later }
def WholeQuosUptoCardSaid : Prop := Claim7.holds Tryd.pinned (.plain (OpenSpec.upto wholeQuosSpec)) wholeQuosUptoCard

/-- THE SECOND FORM's CARD OF 'tribunallaw02.WholeAdds'. -/
def wholeAddsUptoCard : Claim7 := { stood := { row := wholeAddsUptoRow, standIns := [], harness := (true, "61195fa2b9cd2b868b65f2b1f59985bea90502d20f6ce58baad202c680356f47"), looks := false }, kinds := [], alts := [], laidByText := true, laidKinds := [.data, .data, .data], laidTests := true, laidLooks := .later }
def WholeAddsUptoCardSaid : Prop := Claim7.holds Tryd.pinned (.plain (OpenSpec.upto wholeAddsSpec)) wholeAddsUptoCard

/-- THE SECOND FORM's CARD OF 'tribunallaw02.WholeOrders'. -/
def wholeOrdersUptoCard : Claim7 := { stood := { row := wholeOrdersUptoRow, standIns := [], harness := (true, "61195fa2b9cd2b868b65f2b1f59985bea90502d20f6ce58baad202c680356f47"), looks := false }, kinds := [], alts := [], laidByText := true, laidKinds := [.data, .data, .data], laidTests := true, laidLooks := .later }
def WholeOrdersUptoCardSaid : Prop := Claim7.holds Tryd.pinned (.plain (OpenSpec.upto wholeOrdersSpec)) wholeOrdersUptoCard

/-- THE SECOND FORM's CARD OF 'tribunallaw02.WholeSums'. -/
def wholeSumsUptoCard : Claim7 := { stood := { row := wholeSumsUptoRow, standIns := [], harness := (true, "61195fa2b9cd2b868b65f2b1f59985bea90502d20f6ce58baad202c680356f47"), looks := false }, kinds := [], alts := [], laidByText := true, laidKinds := [.data, .data, .data], laidTests := true, laidLooks := .later }
def WholeSumsUptoCardSaid : Prop := Claim7.holds Tryd.pinned (.plain (OpenSpec.upto wholeSumsSpec)) wholeSumsUptoCard

/-- THE SECOND FORM's CARD OF 'tribunallaw02.WholeForms'. -/
def wholeFormsUptoCard : Claim7 := { stood := { row := wholeFormsUptoRow, standIns := [], harness := (true, "61195fa2b9cd2b868b65f2b1f59985bea90502d20f6ce58baad202c680356f47"), looks := false }, kinds := [], alts := [], laidByText := true, laidKinds := [.data, .data, .data], laidTests := true, laidLooks := .later }
def WholeFormsUptoCardSaid : Prop := Claim7.holds Tryd.pinned (.plain (OpenSpec.upto wholeFormsSpec)) wholeFormsUptoCard

/-- THE SECOND FORM's CARD OF 'tribunallaw02.WholeRounds'. -/
def wholeRoundsUptoCard : Claim7 := { stood := { row := wholeRoundsUptoRow, standIns := [], harness := (true, "61195fa2b9cd2b868b65f2b1f59985bea90502d20f6ce58baad202c680356f47"), looks := false }, kinds := [], alts := [], laidByText := true, laidKinds := [.data, .data, .data], laidTests := true, laidLooks := .later }
def WholeRoundsUptoCardSaid : Prop := Claim7.holds Tryd.pinned (.plain (OpenSpec.upto wholeRoundsSpec)) wholeRoundsUptoCard

/-- THE SECOND FORM's CARD OF 'tribunallaw02.WholeMuls'. -/
def wholeMulsUptoCard : Claim7 := { stood := { row := wholeMulsUptoRow, standIns := [], harness := (true, "61195fa2b9cd2b868b65f2b1f59985bea90502d20f6ce58baad202c680356f47"), looks := false }, kinds := [], alts := [], laidByText := true, laidKinds := [.data, .data, .data], laidTests := true, laidLooks := .later }
def WholeMulsUptoCardSaid : Prop := Claim7.holds Tryd.pinned (.plain (OpenSpec.upto wholeMulsSpec)) wholeMulsUptoCard

/-- THE SECOND FORM's CARD OF 'tribunallaw02.WholeDivides'. -/
def wholeDividesUptoCard : Claim7 := { stood := { row := wholeDividesUptoRow, standIns := [], harness := (true, "61195fa2b9cd2b868b65f2b1f59985bea90502d20f6ce58baad202c680356f47"), looks := false }, kinds := [], alts := [], laidByText := true, laidKinds := [.data, .data, .data], laidTests := true, laidLooks := .later }
def WholeDividesUptoCardSaid : Prop := Claim7.holds Tryd.pinned (.plain (OpenSpec.upto wholeDividesSpec)) wholeDividesUptoCard

/-- THE SECOND FORM's CARD OF 'tribunallaw02.WholeRing'. -/
def wholeRingUptoCard : Claim7 := { stood := { row := wholeRingUptoRow, standIns := [], harness := (true, "61195fa2b9cd2b868b65f2b1f59985bea90502d20f6ce58baad202c680356f47"), looks := false }, kinds := [], alts := [], laidByText := true, laidKinds := [.data, .data, .data], laidTests := true, laidLooks := .later }
def WholeRingUptoCardSaid : Prop := Claim7.holds Tryd.pinned (.plain (OpenSpec.upto wholeRingSpec)) wholeRingUptoCard

/-- THE SECOND FORM's CARD OF 'tribunallaw02.WholeExtends'. -/
def wholeExtendsUptoCard : Claim7 := { stood := { row := wholeExtendsUptoRow, standIns := [], harness := (true, "61195fa2b9cd2b868b65f2b1f59985bea90502d20f6ce58baad202c680356f47"), looks := false }, kinds := [], alts := [], laidByText := true, laidKinds := [.data, .data, .data], laidTests := true, laidLooks := .later }
def WholeExtendsUptoCardSaid : Prop := Claim7.holds Tryd.pinned (.plain (OpenSpec.upto wholeExtendsSpec)) wholeExtendsUptoCard

/-- THE SECOND FORM's CARD OF 'tribunallaw02.WholeNear'. -/
def wholeNearUptoCard : Claim7 := { stood := { row := wholeNearUptoRow, standIns := [], harness := (true, "61195fa2b9cd2b868b65f2b1f59985bea90502d20f6ce58baad202c680356f47"), looks := false }, kinds := [], alts := [], laidByText := true, laidKinds := [.data, .data, .data], laidTests := true, laidLooks := .later }
def WholeNearUptoCardSaid : Prop := Claim7.holds Tryd.pinned (.plain (OpenSpec.upto wholeNearSpec)) wholeNearUptoCard

/-- THE SECOND FORM's CARD OF 'tribunallaw02.WholeOwn'. -/
def wholeOwnUptoCard : Claim7 := { stood := { row := wholeOwnUptoRow, standIns := [], harness := (true, "61195fa2b9cd2b868b65f2b1f59985bea90502d20f6ce58baad202c680356f47"), looks := false }, kinds := [], alts := [], laidByText := true, laidKinds := [.data, .data, .data], laidTests := true, laidLooks := .later }
def WholeOwnUptoCardSaid : Prop := Claim7.holds Tryd.pinned (.plain (OpenSpec.upto wholeOwnSpec)) wholeOwnUptoCard

/-- THE SECOND FORM's CARD OF 'tribunallaw02.WholeBezout'. -/
def wholeBezoutUptoCard : Claim7 := { stood := { row := wholeBezoutUptoRow, standIns := [], harness := (true, "61195fa2b9cd2b868b65f2b1f59985bea90502d20f6ce58baad202c680356f47"), looks := false }, kinds := [], alts := [], laidByText := true, laidKinds := [.data, .data, .data], laidTests := true, laidLooks := .later }
def WholeBezoutUptoCardSaid : Prop := Claim7.holds Tryd.pinned (.plain (OpenSpec.upto wholeBezoutSpec)) wholeBezoutUptoCard
end Rows
end Go.Proofs.YtodhkpdcpneeeaaDoor
