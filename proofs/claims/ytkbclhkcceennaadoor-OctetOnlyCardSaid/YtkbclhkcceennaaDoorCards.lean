/-
  DERIVED. GIVEN WITH THE SEED: THE CARDS: each row of YtkbclhkcceennaaDoorRows.lean that lists a variable, with what it lists TIED to the program's text (the seventh form; the later family's looks); each row that meets fmt, with fmt's text TOLD by the authors' own Lean function (tested against real Go, not proved from fmt's source: count such statements apart). THE CARD IS WHAT COUNTS. Prove the row's statement (the work); the ties are given (YtkbclhkcceennaaDoorTie.lean); close each card by the builder's one call (the guide's Derived/Test/ToyasCard.lean, 'card_holds'). Laid BY PROGRAM, IN A SANDBOX (cutbox-door.mjs). By AI agents, Wed Nov 11 2026. No macro, syntax, notation, axiom, sorry.
-/
import Derived.Test.YtkbclhkcceennaaDoorRows
import GoSem.ClaimSeven
namespace Go.Proofs.YtkbclhkcceennaaDoor
namespace Rows

/-- THE TIED CARD OF 'pendulumlaw01.OctetSees'. -/
def octetSeesCard : Claim7 := { stood := { row := octetSeesRow, standIns := [], harness := (true, "849b76e61d93c29989b173af47e110c09e3e2f55fa6fcf5146c204711af1f979"), looks := false }, kinds := [], alts := [], laidByText := true, laidKinds := [.data], laidTests := true, laidLooks := .later }
def OctetSeesCardSaid : Prop := Claim7.holds Tryd.pinned (.plain (OpenSpec.ofChange octetSeesSpec)) octetSeesCard

/-- THE TIED CARD OF 'pendulumlaw01.OctetNames'. -/
def octetNamesCard : Claim7 := { stood := { row := octetNamesRow, standIns := [], harness := (true, "849b76e61d93c29989b173af47e110c09e3e2f55fa6fcf5146c204711af1f979"), looks := false }, kinds := [], alts := [], laidByText := true, laidKinds := [.data], laidTests := true, laidLooks := .later }
def OctetNamesCardSaid : Prop := Claim7.holds Tryd.pinned (.plain (OpenSpec.ofChange octetNamesSpec)) octetNamesCard

/-- THE TIED CARD OF 'pendulumlaw01.OctetPuts'. -/
def octetPutsCard : Claim7 := { stood := { row := octetPutsRow, standIns := [], harness := (true, "849b76e61d93c29989b173af47e110c09e3e2f55fa6fcf5146c204711af1f979"), looks := false }, kinds := [], alts := [], laidByText := true, laidKinds := [.data], laidTests := true, laidLooks := .later }
def OctetPutsCardSaid : Prop := Claim7.holds Tryd.pinned (.plain (OpenSpec.ofChange octetPutsSpec)) octetPutsCard

/-- THE TIED CARD OF 'pendulumlaw01.OctetBack'. -/
def octetBackCard : Claim7 := { stood := { row := octetBackRow, standIns := [], harness := (true, "849b76e61d93c29989b173af47e110c09e3e2f55fa6fcf5146c204711af1f979"), looks := false }, kinds := [], alts := [], laidByText := true, laidKinds := [.data], laidTests := true, laidLooks := .later }
def OctetBackCardSaid : Prop := Claim7.holds Tryd.pinned (.plain (OpenSpec.ofChange octetBackSpec)) octetBackCard

/-- THE TIED CARD OF 'pendulumlaw01.OctetOnly'. -/
def octetOnlyCard : Claim7 := { stood := { row := octetOnlyRow, standIns := [], harness := (true, "849b76e61d93c29989b173af47e110c09e3e2f55fa6fcf5146c204711af1f979"), looks := false }, kinds := [], alts := [], laidByText := true, laidKinds := [.data], laidTests := true, laidLooks := .later }
def OctetOnlyCardSaid : Prop := Claim7.holds Tryd.pinned (.plain (OpenSpec.ofChange octetOnlySpec)) octetOnlyCard

/-- THE TIED CARD OF 'pendulumlaw01.OctetNil'. -/
def octetNilCard : Claim7 := { stood := { row := octetNilRow, standIns := [], harness := (true, "849b76e61d93c29989b173af47e110c09e3e2f55fa6fcf5146c204711af1f979"), looks := false }, kinds := [], alts := [], laidByText := true, laidKinds := [.data], laidTests := true, laidLooks := .later }
def OctetNilCardSaid : Prop := Claim7.holds Tryd.pinned (.plain (OpenSpec.ofChange octetNilSpec)) octetNilCard

/-- THE SECOND FORM's CARD OF 'pendulumlaw01.OctetSees'. -/
def octetSeesUptoCard : Claim7 := { stood := { row := octetSeesUptoRow, standIns := [], harness := (true, "849b76e61d93c29989b173af47e110c09e3e2f55fa6fcf5146c204711af1f979"), looks := false }, kinds := [], alts := [], laidByText := true, laidKinds := [.data], laidTests := true, laidLooks := .later }
def OctetSeesUptoCardSaid : Prop := Claim7.holds Tryd.pinned (.plain (OpenSpec.upto octetSeesSpec)) octetSeesUptoCard

/-- THE SECOND FORM's CARD OF 'pendulumlaw01.OctetNames'. -/
def octetNamesUptoCard : Claim7 := { stood := { row := octetNamesUptoRow, standIns := [], harness := (true, "849b76e61d93c29989b173af47e110c09e3e2f55fa6fcf5146c204711af1f979"), looks := false }, kinds := [], alts := [], laidByText := true, laidKinds := [.data], laidTests := true, laidLooks := .later }
def OctetNamesUptoCardSaid : Prop := Claim7.holds Tryd.pinned (.plain (OpenSpec.upto octetNamesSpec)) octetNamesUptoCard

/-- THE SECOND FORM's CARD OF 'pendulumlaw01.OctetPuts'. -/
def octetPutsUptoCard : Claim7 := { stood := { row := octetPutsUptoRow, standIns := [], harness := (true, "849b76e61d93c29989b173af47e110c09e3e2f55fa6fcf5146c204711af1f979"), looks := false }, kinds := [], alts := [], laidByText := true, laidKinds := [.data], laidTests := true, laidLooks := .later }
def OctetPutsUptoCardSaid : Prop := Claim7.holds Tryd.pinned (.plain (OpenSpec.upto octetPutsSpec)) octetPutsUptoCard

/-- THE SECOND FORM's CARD OF 'pendulumlaw01.OctetBack'. -/
def octetBackUptoCard : Claim7 := { stood := { row := octetBackUptoRow, standIns := [], harness := (true, "849b76e61d93c29989b173af47e110c09e3e2f55fa6fcf5146c204711af1f979"), looks := false }, kinds := [], alts := [], laidByText := true, laidKinds := [.data], laidTests := true, laidLooks := .later }
def OctetBackUptoCardSaid : Prop := Claim7.holds Tryd.pinned (.plain (OpenSpec.upto octetBackSpec)) octetBackUptoCard

/-- THE SECOND FORM's CARD OF 'pendulumlaw01.OctetOnly'. -/
def octetOnlyUptoCard : Claim7 := { stood := { row := octetOnlyUptoRow, standIns := [], harness := (true, "849b76e61d93c29989b173af47e110c09e3e2f55fa6fcf5146c204711af1f979"), looks := false }, kinds := [], alts := [], laidByText := true, laidKinds := [.data], laidTests := true, laidLooks := .later }
def OctetOnlyUptoCardSaid : Prop := Claim7.holds Tryd.pinned (.plain (OpenSpec.upto octetOnlySpec)) octetOnlyUptoCard

/-- THE SECOND FORM's CARD OF 'pendulumlaw01.OctetNil'. -/
def octetNilUptoCard : Claim7 := { stood := { row := octetNilUptoRow, standIns := [], harness := (true, "849b76e61d93c29989b173af47e110c09e3e2f55fa6fcf5146c204711af1f979"), looks := false }, kinds := [], alts := [], laidByText := true, laidKinds := [.data], laidTests := true, laidLooks := .later }
def OctetNilUptoCardSaid : Prop := Claim7.holds Tryd.pinned (.plain (OpenSpec.upto octetNilSpec)) octetNilUptoCard
end Rows
end Go.Proofs.YtkbclhkcceennaaDoor
