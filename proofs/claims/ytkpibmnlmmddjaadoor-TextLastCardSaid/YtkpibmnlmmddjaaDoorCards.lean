/-
  DERIVED. GIVEN WITH THE SEED: THE CARDS: each row of YtkpibmnlmmddjaaDoorRows.lean that lists a variable, with what it lists TIED to the program's text (the seventh form; the later family's looks); each row that meets fmt, with fmt's text TOLD by the authors' own Lean function (tested against real Go, not proved from fmt's source: count such statements apart). THE CARD IS WHAT COUNTS. Prove the row's statement (the work); the ties are given (YtkpibmnlmmddjaaDoorTie.lean); close each card by the builder's one call (the guide's Derived/Test/ToyasCard.lean, 'card_holds'). Laid BY PROGRAM, IN A SANDBOX (cutbox-door.mjs). By AI agents, Wed Nov 11 2026. No macro, syntax, notation, axiom, sorry.
-/
import Derived.Test.YtkpibmnlmmddjaaDoorRows
import GoSem.ClaimSeven
namespace Go.Proofs.YtkpibmnlmmddjaaDoor
namespace Rows

/-- THE TIED CARD OF 'mooringlaw14.TextMatchesReference'. -/
def textMatchesReferenceCard : Claim7 := { stood := { row := textMatchesReferenceRow, standIns := [], harness := (true, "e24822a13c59e95db55ac0c419cef6f4a84d9bfb26a02fae2b5244625e31b879"), looks := true }, kinds := [], alts := [], laidByText := true, laidKinds := [.handle, .data], laidTests := true, laidLooks := .later }
def TextMatchesReferenceCardSaid : Prop := Claim7.holds Tryd.pinned (.plain (OpenSpec.ofChange textMatchesReferenceSpec)) textMatchesReferenceCard

/-- THE TIED CARD OF 'mooringlaw14.TextParses'. -/
def textParsesCard : Claim7 := { stood := { row := textParsesRow, standIns := [], harness := (true, "e24822a13c59e95db55ac0c419cef6f4a84d9bfb26a02fae2b5244625e31b879"), looks := true }, kinds := [], alts := [], laidByText := true, laidKinds := [.handle, .data], laidTests := true, laidLooks := .later }
def TextParsesCardSaid : Prop := Claim7.holds Tryd.pinned (.plain (OpenSpec.ofChange textParsesSpec)) textParsesCard

/-- THE TIED CARD OF 'mooringlaw14.TextValues'. -/
def textValuesCard : Claim7 := { stood := { row := textValuesRow, standIns := [], harness := (true, "e24822a13c59e95db55ac0c419cef6f4a84d9bfb26a02fae2b5244625e31b879"), looks := true }, kinds := [], alts := [], laidByText := true, laidKinds := [.handle, .data], laidTests := true, laidLooks := .later }
def TextValuesCardSaid : Prop := Claim7.holds Tryd.pinned (.plain (OpenSpec.ofChange textValuesSpec)) textValuesCard

/-- THE TIED CARD OF 'mooringlaw14.TextLast'. -/
def textLastCard : Claim7 := { stood := { row := textLastRow, standIns := [], harness := (true, "e24822a13c59e95db55ac0c419cef6f4a84d9bfb26a02fae2b5244625e31b879"), looks := true }, kinds := [], alts := [], laidByText := true, laidKinds := [.handle, .data], laidTests := true, laidLooks := .later }
def TextLastCardSaid : Prop := Claim7.holds Tryd.pinned (.plain (OpenSpec.ofChange textLastSpec)) textLastCard

/-- THE TIED CARD OF 'mooringlaw02.FaultFinds'. -/
def faultFindsCard : Claim7 := { stood := { row := faultFindsRow, standIns := [], harness := (true, "e24822a13c59e95db55ac0c419cef6f4a84d9bfb26a02fae2b5244625e31b879"), looks := true }, kinds := [], alts := [], laidByText := true, laidKinds := [.data, .data, .data, .handle, .data], laidTests := true, laidLooks := .later }
def FaultFindsCardSaid : Prop := Claim7.holds Tryd.pinned (.plain (OpenSpec.ofChange faultFindsSpec)) faultFindsCard

/-- THE TIED CARD OF 'mooringlaw02.FaultShifts'. -/
def faultShiftsCard : Claim7 := { stood := { row := faultShiftsRow, standIns := [], harness := (true, "e24822a13c59e95db55ac0c419cef6f4a84d9bfb26a02fae2b5244625e31b879"), looks := true }, kinds := [], alts := [], laidByText := true, laidKinds := [.data, .data, .data, .handle, .data], laidTests := true, laidLooks := .later }
def FaultShiftsCardSaid : Prop := Claim7.holds Tryd.pinned (.plain (OpenSpec.ofChange faultShiftsSpec)) faultShiftsCard

/-- THE TIED CARD OF 'mooringlaw02.FaultNames'. -/
def faultNamesCard : Claim7 := { stood := { row := faultNamesRow, standIns := [], harness := (true, "e24822a13c59e95db55ac0c419cef6f4a84d9bfb26a02fae2b5244625e31b879"), looks := true }, kinds := [], alts := [], laidByText := true, laidKinds := [.data, .data, .data, .handle, .data], laidTests := true, laidLooks := .later }
def FaultNamesCardSaid : Prop := Claim7.holds Tryd.pinned (.plain (OpenSpec.ofChange faultNamesSpec)) faultNamesCard

/-- THE TIED CARD OF 'mooringlaw02.FaultWraps'. -/
def faultWrapsCard : Claim7 := { stood := { row := faultWrapsRow, standIns := [], harness := (true, "e24822a13c59e95db55ac0c419cef6f4a84d9bfb26a02fae2b5244625e31b879"), looks := true }, kinds := [], alts := [], laidByText := true, laidKinds := [.data, .data, .data, .handle, .data], laidTests := true, laidLooks := .later }
def FaultWrapsCardSaid : Prop := Claim7.holds Tryd.pinned (.plain (OpenSpec.ofChange faultWrapsSpec)) faultWrapsCard

/-- THE SECOND FORM's CARD OF 'mooringlaw14.TextMatchesReference'. -/
def textMatchesReferenceUptoCard : Claim7 := { stood := { row := textMatchesReferenceUptoRow, standIns := [], harness := (true, "e24822a13c59e95db55ac0c419cef6f4a84d9bfb26a02fae2b5244625e31b879"), looks := true }, kinds := [], alts := [], laidByText := true, laidKinds := [.handle, .data], laidTests := true, laidLooks := .later }
def TextMatchesReferenceUptoCardSaid : Prop := Claim7.holds Tryd.pinned (.plain (OpenSpec.upto textMatchesReferenceSpec)) textMatchesReferenceUptoCard

/-- THE SECOND FORM's CARD OF 'mooringlaw14.TextParses'. -/
def textParsesUptoCard : Claim7 := { stood := { row := textParsesUptoRow, standIns := [], harness := (true, "e24822a13c59e95db55ac0c419cef6f4a84d9bfb26a02fae2b5244625e31b879"), looks := true }, kinds := [], alts := [], laidByText := true, laidKinds := [.handle, .data], laidTests := true, laidLooks := .later }
def TextParsesUptoCardSaid : Prop := Claim7.holds Tryd.pinned (.plain (OpenSpec.upto textParsesSpec)) textParsesUptoCard

/-- THE SECOND FORM's CARD OF 'mooringlaw14.TextValues'. -/
def textValuesUptoCard : Claim7 := { stood := { row := textValuesUptoRow, standIns := [], harness := (true, "e24822a13c59e95db55ac0c419cef6f4a84d9bfb26a02fae2b5244625e31b879"), looks := true }, kinds := [], alts := [], laidByText := true, laidKinds := [.handle, .data], laidTests := true, laidLooks := .later }
def TextValuesUptoCardSaid : Prop := Claim7.holds Tryd.pinned (.plain (OpenSpec.upto textValuesSpec)) textValuesUptoCard

/-- THE SECOND FORM's CARD OF 'mooringlaw14.TextLast'. -/
def textLastUptoCard : Claim7 := { stood := { row := textLastUptoRow, standIns := [], harness := (true, "e24822a13c59e95db55ac0c419cef6f4a84d9bfb26a02fae2b5244625e31b879"), looks := true }, kinds := [], alts := [], laidByText := true, laidKinds := [.handle, .data], laidTests := true, laidLooks := .later }
def TextLastUptoCardSaid : Prop := Claim7.holds Tryd.pinned (.plain (OpenSpec.upto textLastSpec)) textLastUptoCard

/-- THE SECOND FORM's CARD OF 'mooringlaw02.FaultFinds'. -/
def faultFindsUptoCard : Claim7 := { stood := { row := faultFindsUptoRow, standIns := [], harness := (true, "e24822a13c59e95db55ac0c419cef6f4a84d9bfb26a02fae2b5244625e31b879"), looks := true }, kinds := [], alts := [], laidByText := true, laidKinds := [.data, .data, .data, .handle, .data], laidTests := true, laidLooks := .later }
def FaultFindsUptoCardSaid : Prop := Claim7.holds Tryd.pinned (.plain (OpenSpec.upto faultFindsSpec)) faultFindsUptoCard

/-- THE SECOND FORM's CARD OF 'mooringlaw02.FaultShifts'. -/
def faultShiftsUptoCard : Claim7 := { stood := { row := faultShiftsUptoRow, standIns := [], harness := (true, "e24822a13c59e95db55ac0c419cef6f4a84d9bfb26a02fae2b5244625e31b879"), looks := true }, kinds := [], alts := [], laidByText := true, laidKinds := [.data, .data, .data, .handle, .data], laidTests := true, laidLooks := .later }
def FaultShiftsUptoCardSaid : Prop := Claim7.holds Tryd.pinned (.plain (OpenSpec.upto faultShiftsSpec)) faultShiftsUptoCard

/-- THE SECOND FORM's CARD OF 'mooringlaw02.FaultNames'. -/
def faultNamesUptoCard : Claim7 := { stood := { row := faultNamesUptoRow, standIns := [], harness := (true, "e24822a13c59e95db55ac0c419cef6f4a84d9bfb26a02fae2b5244625e31b879"), looks := true }, kinds := [], alts := [], laidByText := true, laidKinds := [.data, .data, .data, .handle, .data], laidTests := true, laidLooks := .later }
def FaultNamesUptoCardSaid : Prop := Claim7.holds Tryd.pinned (.plain (OpenSpec.upto faultNamesSpec)) faultNamesUptoCard

/-- THE SECOND FORM's CARD OF 'mooringlaw02.FaultWraps'. -/
def faultWrapsUptoCard : Claim7 := { stood := { row := faultWrapsUptoRow, standIns := [], harness := (true, "e24822a13c59e95db55ac0c419cef6f4a84d9bfb26a02fae2b5244625e31b879"), looks := true }, kinds := [], alts := [], laidByText := true, laidKinds := [.data, .data, .data, .handle, .data], laidTests := true, laidLooks := .later }
def FaultWrapsUptoCardSaid : Prop := Claim7.holds Tryd.pinned (.plain (OpenSpec.upto faultWrapsSpec)) faultWrapsUptoCard
end Rows
end Go.Proofs.YtkpibmnlmmddjaaDoor
