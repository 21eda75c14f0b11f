/-
  DERIVED. GIVEN WITH THE SEED: THE CARDS: each row of YtgopjbnmbaeelaaGreatDoorRows.lean that lists a variable, with what it lists TIED to the program's text (the seventh form; the later family's looks); each row that meets fmt, with fmt's text TOLD by the authors' own Lean function (tested against real Go, not proved from fmt's source: count such statements apart). THE CARD IS WHAT COUNTS. Prove the row's statement (the work); the ties are given (YtgopjbnmbaeelaaGreatDoorTie.lean); close each card by the builder's one call (the guide's Derived/Test/ToyasCard.lean, 'card_holds'). Laid BY PROGRAM, IN A SANDBOX (cutbox-door.mjs). By AI agents, Wed Nov 11 2026. No macro, syntax, notation, axiom, sorry.
-/
import Derived.Test.YtgopjbnmbaeelaaGreatDoorRows
import GoSem.ClaimSeven
namespace Go.Proofs.YtgopjbnmbaeelaaGreatDoor
namespace Rows

/-- THE TIED CARD OF 'pendulumlaw18.CpuNil'. -/
def cpuNilCard : Claim7 := { stood := { row := cpuNilRow, standIns := [], harness := (true, "012dd00582c6fdb66cb27f4b626754c4a9ba6651ca29f4a0aead4a450e8a7212"), looks := true }, kinds := [], alts := [], laidByText := true, laidKinds := [.data], laidTests := true, laidLooks := .later }
def CpuNilCardSaid : Prop := Claim7.holds Tryz.pinned (.plain (OpenSpec.ofChange cpuNilSpec)) cpuNilCard

/-- THE TIED CARD OF 'pendulumlaw18.CpuGoesOn'. -/
def cpuGoesOnCard : Claim7 := { stood := { row := cpuGoesOnRow, standIns := [], harness := (true, "012dd00582c6fdb66cb27f4b626754c4a9ba6651ca29f4a0aead4a450e8a7212"), looks := true }, kinds := [], alts := [], laidByText := true, laidKinds := [.data], laidTests := true, laidLooks := .later }
def CpuGoesOnCardSaid : Prop := Claim7.holds Tryz.pinned (.plain (OpenSpec.ofChange cpuGoesOnSpec)) cpuGoesOnCard

/-- THE TIED CARD OF 'pendulumlaw18.CpuNames'. -/
def cpuNamesCard : Claim7 := { stood := { row := cpuNamesRow, standIns := [], harness := (true, "012dd00582c6fdb66cb27f4b626754c4a9ba6651ca29f4a0aead4a450e8a7212"), looks := true }, kinds := [], alts := [], laidByText := true, laidKinds := [.data], laidTests := true, laidLooks := .later }
def CpuNamesCardSaid : Prop := Claim7.holds Tryz.pinned (.plain (OpenSpec.ofChange cpuNamesSpec)) cpuNamesCard

/-- THE SECOND FORM's CARD OF 'pendulumlaw18.CpuNil'. -/
def cpuNilUptoCard : Claim7 := { stood := { row := cpuNilUptoRow, standIns := [], harness := (true, "012dd00582c6fdb66cb27f4b626754c4a9ba6651ca29f4a0aead4a450e8a7212"), looks := true }, kinds := [], alts := [], laidByText := true, laidKinds := [.data], laidTests := true, laidLooks := .later }
def CpuNilUptoCardSaid : Prop := Claim7.holds Tryz.pinned (.plain (OpenSpec.upto cpuNilSpec)) cpuNilUptoCard

/-- THE SECOND FORM's CARD OF 'pendulumlaw18.CpuGoesOn'. -/
def cpuGoesOnUptoCard : Claim7 := { stood := { row := cpuGoesOnUptoRow, standIns := [], harness := (true, "012dd00582c6fdb66cb27f4b626754c4a9ba6651ca29f4a0aead4a450e8a7212"), looks := true }, kinds := [], alts := [], laidByText := true, laidKinds := [.data], laidTests := true, laidLooks := .later }
def CpuGoesOnUptoCardSaid : Prop := Claim7.holds Tryz.pinned (.plain (OpenSpec.upto cpuGoesOnSpec)) cpuGoesOnUptoCard

/-- THE SECOND FORM's CARD OF 'pendulumlaw18.CpuNames'. -/
def cpuNamesUptoCard : Claim7 := { stood := { row := cpuNamesUptoRow, standIns := [], harness := (true, "012dd00582c6fdb66cb27f4b626754c4a9ba6651ca29f4a0aead4a450e8a7212"), looks := true }, kinds := [], alts := [], laidByText := true, laidKinds := [.data], laidTests := true, laidLooks := .later }
def CpuNamesUptoCardSaid : Prop := Claim7.holds Tryz.pinned (.plain (OpenSpec.upto cpuNamesSpec)) cpuNamesUptoCard
end Rows
end Go.Proofs.YtgopjbnmbaeelaaGreatDoor
