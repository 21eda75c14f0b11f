/-
  DERIVED. GIVEN WITH THE SEED: THE CARDS: each row of YthkaclhjopddcaaDoorRows.lean that lists a variable, with what it lists TIED to the program's text (the seventh form; the later family's looks); each row that meets fmt, with fmt's text TOLD by the authors' own Lean function (tested against real Go, not proved from fmt's source: count such statements apart). THE CARD IS WHAT COUNTS. Prove the row's statement (the work); the ties are given (YthkaclhjopddcaaDoorTie.lean); close each card by the builder's one call (the guide's Derived/Test/ToyasCard.lean, 'card_holds'). Laid BY PROGRAM, IN A SANDBOX (cutbox-door.mjs). By AI agents, Wed Nov 11 2026. No macro, syntax, notation, axiom, sorry.
-/
import Derived.Test.YthkaclhjopddcaaDoorRows
import GoSem.ClaimSeven
namespace Go.Proofs.YthkaclhjopddcaaDoor
namespace Rows

/-- THE TIED CARD OF 'pendulumlaw08.RegsBack'. -/
def regsBackCard : Claim7 := { stood := { row := regsBackRow, standIns := [], harness := (true, "0d5607c3e6eb50ccf4a65fdda46fb1f7b0133918ae50f3dd55f533473207871e"), looks := false }, kinds := [], alts := [], laidByText := true, laidKinds := [.data, .data, .data, .data], laidTests := true, laidLooks := .later }
def RegsBackCardSaid : Prop := Claim7.holds Tryd.pinned (.plain (OpenSpec.ofChange regsBackSpec)) regsBackCard

/-- THE TIED CARD OF 'pendulumlaw08.RegsNames'. -/
def regsNamesCard : Claim7 := { stood := { row := regsNamesRow, standIns := [], harness := (true, "0d5607c3e6eb50ccf4a65fdda46fb1f7b0133918ae50f3dd55f533473207871e"), looks := false }, kinds := [], alts := [], laidByText := true, laidKinds := [.data, .data, .data, .data], laidTests := true, laidLooks := .later }
def RegsNamesCardSaid : Prop := Claim7.holds Tryd.pinned (.plain (OpenSpec.ofChange regsNamesSpec)) regsNamesCard

/-- THE TIED CARD OF 'pendulumlaw08.RegsCalls'. -/
def regsCallsCard : Claim7 := { stood := { row := regsCallsRow, standIns := [], harness := (true, "0d5607c3e6eb50ccf4a65fdda46fb1f7b0133918ae50f3dd55f533473207871e"), looks := false }, kinds := [], alts := [], laidByText := true, laidKinds := [.data, .data, .data, .data], laidTests := true, laidLooks := .later }
def RegsCallsCardSaid : Prop := Claim7.holds Tryd.pinned (.plain (OpenSpec.ofChange regsCallsSpec)) regsCallsCard

/-- THE SECOND FORM's CARD OF 'pendulumlaw08.RegsBack'. -/
def regsBackUptoCard : Claim7 := { stood := { row := regsBackUptoRow, standIns := [], harness := (true, "0d5607c3e6eb50ccf4a65fdda46fb1f7b0133918ae50f3dd55f533473207871e"), looks := false }, kinds := [], alts := [], laidByText := true, laidKinds := [.data, .data, .data, .data], laidTests := true, laidLooks := .later }
def RegsBackUptoCardSaid : Prop := Claim7.holds Tryd.pinned (.plain (OpenSpec.upto regsBackSpec)) regsBackUptoCard

/-- THE SECOND FORM's CARD OF 'pendulumlaw08.RegsNames'. -/
def regsNamesUptoCard : Claim7 := { stood := { row := regsNamesUptoRow, standIns := [], harness := (true, "0d5607c3e6eb50ccf4a65fdda46fb1f7b0133918ae50f3dd55f533473207871e"), looks := false }, kinds := [], alts := [], laidByText := true, laidKinds := [.data, .data, .data, .data], laidTests := true, laidLooks := .later }
def RegsNamesUptoCardSaid : Prop := Claim7.holds Tryd.pinned (.plain (OpenSpec.upto regsNamesSpec)) regsNamesUptoCard

/-- THE SECOND FORM's CARD OF 'pendulumlaw08.RegsCalls'. -/
def regsCallsUptoCard : Claim7 := { stood := { row := regsCallsUptoRow, standIns := [], harness := (true, "0d5607c3e6eb50ccf4a65fdda46fb1f7b0133918ae50f3dd55f533473207871e"), looks := false }, kinds := [], alts := [], laidByText := true, laidKinds := [.data, .data, .data, .data], laidTests := true, laidLooks := .later }
def RegsCallsUptoCardSaid : Prop := Claim7.holds Tryd.pinned (.plain (OpenSpec.upto regsCallsSpec)) regsCallsUptoCard
end Rows
end Go.Proofs.YthkaclhjopddcaaDoor
