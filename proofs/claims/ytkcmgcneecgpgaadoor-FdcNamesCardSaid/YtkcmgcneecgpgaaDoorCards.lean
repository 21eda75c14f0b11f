/-
  DERIVED. GIVEN WITH THE SEED: THE CARDS: each row of YtkcmgcneecgpgaaDoorRows.lean that lists a variable, with what it lists TIED to the program's text (the seventh form; the later family's looks); each row that meets fmt, with fmt's text TOLD by the authors' own Lean function (tested against real Go, not proved from fmt's source: count such statements apart). THE CARD IS WHAT COUNTS. Prove the row's statement (the work); the ties are given (YtkcmgcneecgpgaaDoorTie.lean); close each card by the builder's one call (the guide's Derived/Test/ToyasCard.lean, 'card_holds'). Laid BY PROGRAM, IN A SANDBOX (cutbox-door.mjs). By AI agents, Wed Nov 11 2026. No macro, syntax, notation, axiom, sorry.
-/
import Derived.Test.YtkcmgcneecgpgaaDoorRows
import GoSem.ClaimSeven
namespace Go.Proofs.YtkcmgcneecgpgaaDoor
namespace Rows

/-- THE TIED CARD OF 'pendulumlaw22.FdcNil'. -/
def fdcNilCard : Claim7 := { stood := { row := fdcNilRow, standIns := [], harness := (true, "edeaee36914eec34af98558e6c32be100d84e0964dd94d68ee968e76514799bd"), looks := false }, kinds := [], alts := [], laidByText := true, laidKinds := [.data], laidTests := true, laidLooks := .later }
def FdcNilCardSaid : Prop := Claim7.holds Tryd.pinned (.plain (OpenSpec.ofChange fdcNilSpec)) fdcNilCard

/-- THE TIED CARD OF 'pendulumlaw22.FdcNames'. -/
def fdcNamesCard : Claim7 := { stood := { row := fdcNamesRow, standIns := [], harness := (true, "edeaee36914eec34af98558e6c32be100d84e0964dd94d68ee968e76514799bd"), looks := false }, kinds := [], alts := [], laidByText := true, laidKinds := [.data], laidTests := true, laidLooks := .later }
def FdcNamesCardSaid : Prop := Claim7.holds Tryd.pinned (.plain (OpenSpec.ofChange fdcNamesSpec)) fdcNamesCard

/-- THE TIED CARD OF 'pendulumlaw22.FdcGoesOn'. -/
def fdcGoesOnCard : Claim7 := { stood := { row := fdcGoesOnRow, standIns := [], harness := (true, "edeaee36914eec34af98558e6c32be100d84e0964dd94d68ee968e76514799bd"), looks := false }, kinds := [], alts := [], laidByText := true, laidKinds := [.data], laidTests := true, laidLooks := .later }
def FdcGoesOnCardSaid : Prop := Claim7.holds Tryd.pinned (.plain (OpenSpec.ofChange fdcGoesOnSpec)) fdcGoesOnCard

/-- THE SECOND FORM's CARD OF 'pendulumlaw22.FdcNil'. -/
def fdcNilUptoCard : Claim7 := { stood := { row := fdcNilUptoRow, standIns := [], harness := (true, "edeaee36914eec34af98558e6c32be100d84e0964dd94d68ee968e76514799bd"), looks := false }, kinds := [], alts := [], laidByText := true, laidKinds := [.data], laidTests := true, laidLooks := .later }
def FdcNilUptoCardSaid : Prop := Claim7.holds Tryd.pinned (.plain (OpenSpec.upto fdcNilSpec)) fdcNilUptoCard

/-- THE SECOND FORM's CARD OF 'pendulumlaw22.FdcNames'. -/
def fdcNamesUptoCard : Claim7 := { stood := { row := fdcNamesUptoRow, standIns := [], harness := (true, "edeaee36914eec34af98558e6c32be100d84e0964dd94d68ee968e76514799bd"), looks := false }, kinds := [], alts := [], laidByText := true, laidKinds := [.data], laidTests := true, laidLooks := .later }
def FdcNamesUptoCardSaid : Prop := Claim7.holds Tryd.pinned (.plain (OpenSpec.upto fdcNamesSpec)) fdcNamesUptoCard

/-- THE SECOND FORM's CARD OF 'pendulumlaw22.FdcGoesOn'. -/
def fdcGoesOnUptoCard : Claim7 := { stood := { row := fdcGoesOnUptoRow, standIns := [], harness := (true, "edeaee36914eec34af98558e6c32be100d84e0964dd94d68ee968e76514799bd"), looks := false }, kinds := [], alts := [], laidByText := true, laidKinds := [.data], laidTests := true, laidLooks := .later }
def FdcGoesOnUptoCardSaid : Prop := Claim7.holds Tryd.pinned (.plain (OpenSpec.upto fdcGoesOnSpec)) fdcGoesOnUptoCard
end Rows
end Go.Proofs.YtkcmgcneecgpgaaDoor
