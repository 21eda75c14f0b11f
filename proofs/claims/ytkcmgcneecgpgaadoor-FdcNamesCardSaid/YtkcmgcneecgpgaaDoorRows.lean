/-
  NARROWER THAN 'FOR EVERY INPUT', by the rows' own cells (each row's printed sentence says how): FdcNil: laid · FdcNames: laid · FdcGoesOn: laid.
  DERIVED. THE GIVEN ROWS OF THIS SEAT. 3 by the template 'for every input the law returns true; each argument reads behind the call as it read before'; 0 by the template 'total and deterministic' (their statements: YtkcmgcneecgpgaaDoorTotals.lean).
  GIVEN WITH THE SEED: the statements are not yours to turn. If you find one false, say at which input.
  Laid BY PROGRAM, IN A SANDBOX (cutbox-rows.mjs): the forced cells as the released guide's own fill.sh prints them over the translation 31c7a714e1aa70c4… (all of the seat's roots in one cut). By AI agents, Wed Nov 11 2026. No macro, syntax, notation, axiom, sorry.
-/
import Derived.Test.YtkcmgcneecgpgaaDoorChecked
import GoSem.Claim
import GoSem.ClaimJoined
import GoSem.ClaimMapViews
import Derived.JoinedTies
import Derived.KernelRfl
namespace Go.Proofs.YtkcmgcneecgpgaaDoor
/- THE CELL 'sum', in the pinned program and in every row, IS THE sha256 OF THE DUMP (.gsa) THAT YtkcmgcneecgpgaaDoorProg.lean LOADS. Nothing in Lean hashes anything: it is a label: what it is worth is what the hold of that sum in a sandbox is worth. -/
noncomputable def Tryd.pinned : Pinned := { name := "ytkcmgcneecgpgaadoor", sum := "31c7a714e1aa70c4af5169c0a4c81768f4acaa645926d8a26e0e98c6924d859c", checked := Tryd.checked }
namespace Rows
def none {H : Type} : Left H := { results := [], args := [] }

/- WHAT THE LISTED PACKAGE-LEVEL VARIABLES READ AS WHEN THE CALL BEGINS. Each datum BY PROGRAM (the guide's laid-datum.mjs) off the statement by which the dump's own 'gosem.cut.vars' lays the variable. In a bare row this is a premise. The card (YtkcmgcneecgpgaaDoorCards.lean) ties it to the program's text. -/
def laid_pendulum_octet_table {H : Type} : DataW H := .agg [.lit (.int .u16 0), .lit (.int .u16 4129), .lit (.int .u16 8258), .lit (.int .u16 12387), .lit (.int .u16 16516), .lit (.int .u16 20645), .lit (.int .u16 24774), .lit (.int .u16 28903), .lit (.int .u16 33032), .lit (.int .u16 37161), .lit (.int .u16 41290), .lit (.int .u16 45419), .lit (.int .u16 49548), .lit (.int .u16 53677), .lit (.int .u16 57806), .lit (.int .u16 61935)]

/-- 'pendulumlaw22.FdcNil': WHATEVER THE INPUT: true; the input reads as it did. -/
def fdcNilSpec : ChangeSpec := { name := "fdcNil", fn := fun _ => fun
  | [d1, d2] => { results := [.lit (.bool true)], args := [d1, d2] }
  | _ => none }
def fdcNilRow : OpenClaim := { program := "ytkcmgcneecgpgaadoor", sum := "31c7a714e1aa70c4af5169c0a4c81768f4acaa645926d8a26e0e98c6924d859c", func := "pendulum/pendulumlaw22.FdcNil", spec := "fdcNil", unfollowed := true, recurses := true, named := ["pendulum/octet.table"], plainKeys := false, apart := false, laid := [("pendulum/octet.table", laid_pendulum_octet_table)] }
def FdcNilSaid : Prop := fdcNilRow.holds Tryd.pinned (OpenSpec.ofChange fdcNilSpec)

/-- ITS FALSE NEIGHBOUR: 'it returns false'. Refute it at one input. -/
def fdcNilWrong : ChangeSpec := { name := "fdcNil", fn := fun _ => fun
  | [d1, d2] => { results := [.lit (.bool false)], args := [d1, d2] }
  | _ => none }
def FdcNilWrongFalsely : Prop := fdcNilRow.holds Tryd.pinned (OpenSpec.ofChange fdcNilWrong)

/-- 'pendulumlaw22.FdcNames': WHATEVER THE INPUT: true; the input reads as it did. -/
def fdcNamesSpec : ChangeSpec := { name := "fdcNames", fn := fun _ => fun
  | [] => { results := [.lit (.bool true)], args := [] }
  | _ => none }
def fdcNamesRow : OpenClaim := { program := "ytkcmgcneecgpgaadoor", sum := "31c7a714e1aa70c4af5169c0a4c81768f4acaa645926d8a26e0e98c6924d859c", func := "pendulum/pendulumlaw22.FdcNames", spec := "fdcNames", unfollowed := true, recurses := true, named := ["pendulum/octet.table"], plainKeys := false, apart := false, laid := [("pendulum/octet.table", laid_pendulum_octet_table)] }
def FdcNamesSaid : Prop := fdcNamesRow.holds Tryd.pinned (OpenSpec.ofChange fdcNamesSpec)

/-- ITS FALSE NEIGHBOUR: 'it returns false'. Refute it at one input. -/
def fdcNamesWrong : ChangeSpec := { name := "fdcNames", fn := fun _ => fun
  | [] => { results := [.lit (.bool false)], args := [] }
  | _ => none }
def FdcNamesWrongFalsely : Prop := fdcNamesRow.holds Tryd.pinned (OpenSpec.ofChange fdcNamesWrong)

/-- 'pendulumlaw22.FdcGoesOn': WHATEVER THE INPUT: true; the input reads as it did. -/
def fdcGoesOnSpec : ChangeSpec := { name := "fdcGoesOn", fn := fun _ => fun
  | [d1, d2, d3, d4] => { results := [.lit (.bool true)], args := [d1, d2, d3, d4] }
  | _ => none }
def fdcGoesOnRow : OpenClaim := { program := "ytkcmgcneecgpgaadoor", sum := "31c7a714e1aa70c4af5169c0a4c81768f4acaa645926d8a26e0e98c6924d859c", func := "pendulum/pendulumlaw22.FdcGoesOn", spec := "fdcGoesOn", unfollowed := true, recurses := true, named := ["pendulum/octet.table"], plainKeys := false, apart := false, laid := [("pendulum/octet.table", laid_pendulum_octet_table)] }
def FdcGoesOnSaid : Prop := fdcGoesOnRow.holds Tryd.pinned (OpenSpec.ofChange fdcGoesOnSpec)

/-- ITS FALSE NEIGHBOUR: 'it returns false'. Refute it at one input. -/
def fdcGoesOnWrong : ChangeSpec := { name := "fdcGoesOn", fn := fun _ => fun
  | [d1, d2, d3, d4] => { results := [.lit (.bool false)], args := [d1, d2, d3, d4] }
  | _ => none }
def FdcGoesOnWrongFalsely : Prop := fdcGoesOnRow.holds Tryd.pinned (OpenSpec.ofChange fdcGoesOnWrong)

/- THE SECOND FORM. 'bulk': how many values and letters a reading holds, each counted each time it is reached (what is shared counts as often as it is met; a slice's spare places count too). A statement '..UptoSaid' is the law's where the arguments, and the package variables that the reading takes, are together of bulk at most 1048576: NARROWER than '..Said'. Prove '..Said' where nothing that the law and all that it calls make is longer than what came in: it says more and counts as full. Else prove '..UptoSaid'. A law counts once. -/
mutual
def uptoBulk {H : Type} : DataW H → Nat
  | .lit (.string bytes) => bytes.length + 1
  | .lit _ => 1
  | .nil => 1
  | .ptr d => uptoBulk d + 1
  | .slice elems spare => uptoBulkAll elems + uptoBulkAll spare + 1
  | .agg parts => uptoBulkAll parts + 1
  | .iface _ d => uptoBulk d + 1
  | .map entries => uptoBulkEntries entries + 1
  | .held _ => 1
def uptoBulkAll {H : Type} : List (DataW H) → Nat
  | [] => 0
  | d :: r => uptoBulk d + uptoBulkAll r
def uptoBulkEntries {H : Type} : List (Lit × DataW H) → Nat
  | [] => 0
  | x :: r => uptoBulkEntry x + uptoBulkEntries r
def uptoBulkEntry {H : Type} : Lit × DataW H → Nat
  | (.string bytes, d) => bytes.length + uptoBulk d + 1
  | (_, d) => uptoBulk d + 1
 end
def uptoSmall : (H : Type) → List (DataW H) → Bool := fun _ ds => decide (uptoBulkAll ds ≤ 1048576)
def OpenSpec.upto (s : _root_.Go.ChangeSpec) : _root_.Go.OpenSpec := { _root_.Go.OpenSpec.ofChange s with cond := some uptoSmall }

/-- 'pendulumlaw22.FdcNil', WHERE WHAT IT READS IS OF BULK AT MOST 1048576: true; the input reads as it did. -/
def fdcNilUptoRow : OpenClaim := { program := "ytkcmgcneecgpgaadoor", sum := "31c7a714e1aa70c4af5169c0a4c81768f4acaa645926d8a26e0e98c6924d859c", func := "pendulum/pendulumlaw22.FdcNil", spec := "fdcNil", unfollowed := true, recurses := true, named := ["pendulum/octet.table"], plainKeys := false, apart := false, laid := [("pendulum/octet.table", laid_pendulum_octet_table)], narrowed := true }
def FdcNilUptoSaid : Prop := fdcNilUptoRow.holds Tryd.pinned (OpenSpec.upto fdcNilSpec)

/-- 'pendulumlaw22.FdcNames', WHERE WHAT IT READS IS OF BULK AT MOST 1048576: true; the input reads as it did. -/
def fdcNamesUptoRow : OpenClaim := { program := "ytkcmgcneecgpgaadoor", sum := "31c7a714e1aa70c4af5169c0a4c81768f4acaa645926d8a26e0e98c6924d859c", func := "pendulum/pendulumlaw22.FdcNames", spec := "fdcNames", unfollowed := true, recurses := true, named := ["pendulum/octet.table"], plainKeys := false, apart := false, laid := [("pendulum/octet.table", laid_pendulum_octet_table)], narrowed := true }
def FdcNamesUptoSaid : Prop := fdcNamesUptoRow.holds Tryd.pinned (OpenSpec.upto fdcNamesSpec)

/-- 'pendulumlaw22.FdcGoesOn', WHERE WHAT IT READS IS OF BULK AT MOST 1048576: true; the input reads as it did. -/
def fdcGoesOnUptoRow : OpenClaim := { program := "ytkcmgcneecgpgaadoor", sum := "31c7a714e1aa70c4af5169c0a4c81768f4acaa645926d8a26e0e98c6924d859c", func := "pendulum/pendulumlaw22.FdcGoesOn", spec := "fdcGoesOn", unfollowed := true, recurses := true, named := ["pendulum/octet.table"], plainKeys := false, apart := false, laid := [("pendulum/octet.table", laid_pendulum_octet_table)], narrowed := true }
def FdcGoesOnUptoSaid : Prop := fdcGoesOnUptoRow.holds Tryd.pinned (OpenSpec.upto fdcGoesOnSpec)

end Rows
end Go.Proofs.YtkcmgcneecgpgaaDoor
