/-
  DERIVED. GIVEN WITH THE SEED: THE CARDS: each row of YtlaenenfcijbiaaDoorRows.lean that lists a variable, with what it lists TIED to the program's text (the seventh form; the later family's looks); each row that meets fmt, with fmt's text TOLD by the authors' own Lean function (tested against real Go, not proved from fmt's source: count such statements apart). THE CARD IS WHAT COUNTS. Prove the row's statement (the work); the ties are given (YtlaenenfcijbiaaDoorTie.lean); close each card by the builder's one call (the guide's Derived/Test/ToyasCard.lean, 'card_holds'). Laid BY PROGRAM, IN A SANDBOX (cutbox-door.mjs). By AI agents, Wed Nov 11 2026. No macro, syntax, notation, axiom, sorry.
-/
import Derived.Test.YtlaenenfcijbiaaDoorRows
import GoSem.ClaimSeven
namespace Go.Proofs.YtlaenenfcijbiaaDoor
namespace Rows

/-- THE TIED CARD OF 'pendulumlaw21.ImageNames'. -/
def imageNamesCard : Claim7 := { stood := { row := imageNamesRow, standIns := [], harness := (true, "c35fb736c22e369b06c24a5e0cc9f1745aa849e548e92391da13d40ddf9797e3"), looks := false }, kinds := [], alts := [], laidByText := true, laidKinds := [.data], laidTests := true, laidLooks := .later }
def ImageNamesCardSaid : Prop := Claim7.holds Tryd.pinned (.plain (OpenSpec.ofChange imageNamesSpec)) imageNamesCard

/-- THE TIED CARD OF 'pendulumlaw21.ImageBack'. -/
def imageBackCard : Claim7 := { stood := { row := imageBackRow, standIns := [], harness := (true, "c35fb736c22e369b06c24a5e0cc9f1745aa849e548e92391da13d40ddf9797e3"), looks := false }, kinds := [], alts := [], laidByText := true, laidKinds := [.data], laidTests := true, laidLooks := .later }
def ImageBackCardSaid : Prop := Claim7.holds Tryd.pinned (.plain (OpenSpec.ofChange imageBackSpec)) imageBackCard

/-- THE TIED CARD OF 'pendulumlaw21.ImageCalls'. -/
def imageCallsCard : Claim7 := { stood := { row := imageCallsRow, standIns := [], harness := (true, "c35fb736c22e369b06c24a5e0cc9f1745aa849e548e92391da13d40ddf9797e3"), looks := false }, kinds := [], alts := [], laidByText := true, laidKinds := [.data], laidTests := true, laidLooks := .later }
def ImageCallsCardSaid : Prop := Claim7.holds Tryd.pinned (.plain (OpenSpec.ofChange imageCallsSpec)) imageCallsCard

/-- THE SECOND FORM's CARD OF 'pendulumlaw21.ImageNames'. -/
def imageNamesUptoCard : Claim7 := { stood := { row := imageNamesUptoRow, standIns := [], harness := (true, "c35fb736c22e369b06c24a5e0cc9f1745aa849e548e92391da13d40ddf9797e3"), looks := false }, kinds := [], alts := [], laidByText := true, laidKinds := [.data], laidTests := true, laidLooks := .later }
def ImageNamesUptoCardSaid : Prop := Claim7.holds Tryd.pinned (.plain (OpenSpec.upto imageNamesSpec)) imageNamesUptoCard

/-- THE SECOND FORM's CARD OF 'pendulumlaw21.ImageBack'. -/
def imageBackUptoCard : Claim7 := { stood := { row := imageBackUptoRow, standIns := [], harness := (true, "c35fb736c22e369b06c24a5e0cc9f1745aa849e548e92391da13d40ddf9797e3"), looks := false }, kinds := [], alts := [], laidByText := true, laidKinds := [.data], laidTests := true, laidLooks := .later }
def ImageBackUptoCardSaid : Prop := Claim7.holds Tryd.pinned (.plain (OpenSpec.upto imageBackSpec)) imageBackUptoCard

/-- THE SECOND FORM's CARD OF 'pendulumlaw21.ImageCalls'. -/
def imageCallsUptoCard : Claim7 := { stood := { row := imageCallsUptoRow, standIns := [], harness := (true, "c35fb736c22e369b06c24a5e0cc9f1745aa849e548e92391da13d40ddf9797e3"), looks := false }, kinds := [], alts := [], laidByText := true, laidKinds := [.data], laidTests := true, laidLooks := .later }
def ImageCallsUptoCardSaid : Prop := Claim7.holds Tryd.pinned (.plain (OpenSpec.upto imageCallsSpec)) imageCallsUptoCard
end Rows
end Go.Proofs.YtlaenenfcijbiaaDoor
