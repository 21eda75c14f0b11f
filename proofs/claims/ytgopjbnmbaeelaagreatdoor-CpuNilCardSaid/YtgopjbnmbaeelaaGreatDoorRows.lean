/-
  NARROWER THAN 'FOR EVERY INPUT', by the rows' own cells (each row's printed sentence says how): CpuNil: laid · CpuGoesOn: laid · CpuNames: laid.
  DERIVED. THE GIVEN ROWS OF THIS SEAT. 3 by the template 'for every input the law returns true; each argument reads behind the call as it read before'; 0 by the template 'total and deterministic' (their statements: YtgopjbnmbaeelaaGreatDoorTotals.lean).
  GIVEN WITH THE SEED: the statements are not yours to turn. If you find one false, say at which input.
  Laid BY PROGRAM, IN A SANDBOX (cutbox-rows.mjs): the forced cells as the released guide's own fill.sh prints them over the translation 04a955c237f21669… (all of the seat's roots in one cut). By AI agents, Wed Nov 11 2026. No macro, syntax, notation, axiom, sorry.
-/
import Derived.Test.YtgopjbnmbaeelaaGreatDoorChecked
import GoSem.Claim
import GoSem.ClaimJoined
import GoSem.ClaimMapViews
import Derived.JoinedTies
import Derived.KernelRfl
namespace Go.Proofs.YtgopjbnmbaeelaaGreatDoor
/- THE CELL 'sum', in the pinned program and in every row, IS THE sha256 OF THE DUMP (.gsa) THAT YtgopjbnmbaeelaaGreatDoorProg.lean LOADS. Nothing in Lean hashes anything: it is a label: what it is worth is what the hold of that sum in a sandbox is worth. -/
noncomputable def Tryz.pinned : Pinned := { name := "ytgopjbnmbaeelaagreatdoor", sum := "04a955c237f21669ec7c6ef580acc899451928dc0e2f37743465d8a0a241fd27", checked := Tryz.checked }
namespace Rows
def none {H : Type} : Left H := { results := [], args := [] }

/- WHAT THE LISTED PACKAGE-LEVEL VARIABLES READ AS WHEN THE CALL BEGINS. Each datum BY PROGRAM (the guide's laid-datum.mjs) off the statement by which the dump's own 'gosem.cut.vars' lays the variable. In a bare row this is a premise. The card (YtgopjbnmbaeelaaGreatDoorCards.lean) ties it to the program's text. -/
def laid_pendulum_octet_table {H : Type} : DataW H := .agg [.lit (.int .u16 0), .lit (.int .u16 4129), .lit (.int .u16 8258), .lit (.int .u16 12387), .lit (.int .u16 16516), .lit (.int .u16 20645), .lit (.int .u16 24774), .lit (.int .u16 28903), .lit (.int .u16 33032), .lit (.int .u16 37161), .lit (.int .u16 41290), .lit (.int .u16 45419), .lit (.int .u16 49548), .lit (.int .u16 53677), .lit (.int .u16 57806), .lit (.int .u16 61935)]

/-- 'pendulumlaw18.CpuNil': WHATEVER THE INPUT: true; the input reads as it did. -/
def cpuNilSpec : ChangeSpec := { name := "cpuNil", fn := fun _ => fun
  | [d1, d2, d3] => { results := [.lit (.bool true)], args := [d1, d2, d3] }
  | _ => none }
def cpuNilRow : OpenClaim := { program := "ytgopjbnmbaeelaagreatdoor", sum := "04a955c237f21669ec7c6ef580acc899451928dc0e2f37743465d8a0a241fd27", func := "pendulum/pendulumlaw18.CpuNil", spec := "cpuNil", unfollowed := true, recurses := true, named := ["pendulum/octet.table"], apart := false, laid := [("pendulum/octet.table", laid_pendulum_octet_table)] }
def CpuNilSaid : Prop := cpuNilRow.holds Tryz.pinned (OpenSpec.ofChange cpuNilSpec)

/-- ITS FALSE NEIGHBOUR: 'it returns false'. Refute it at one input. -/
def cpuNilWrong : ChangeSpec := { name := "cpuNil", fn := fun _ => fun
  | [d1, d2, d3] => { results := [.lit (.bool false)], args := [d1, d2, d3] }
  | _ => none }
def CpuNilWrongFalsely : Prop := cpuNilRow.holds Tryz.pinned (OpenSpec.ofChange cpuNilWrong)

/-- 'pendulumlaw18.CpuGoesOn': WHATEVER THE INPUT: true; the input reads as it did. -/
def cpuGoesOnSpec : ChangeSpec := { name := "cpuGoesOn", fn := fun _ => fun
  | [d1, d2, d3] => { results := [.lit (.bool true)], args := [d1, d2, d3] }
  | _ => none }
def cpuGoesOnRow : OpenClaim := { program := "ytgopjbnmbaeelaagreatdoor", sum := "04a955c237f21669ec7c6ef580acc899451928dc0e2f37743465d8a0a241fd27", func := "pendulum/pendulumlaw18.CpuGoesOn", spec := "cpuGoesOn", unfollowed := true, recurses := true, named := ["pendulum/octet.table"], apart := false, laid := [("pendulum/octet.table", laid_pendulum_octet_table)] }
def CpuGoesOnSaid : Prop := cpuGoesOnRow.holds Tryz.pinned (OpenSpec.ofChange cpuGoesOnSpec)

/-- ITS FALSE NEIGHBOUR: 'it returns false'. Refute it at one input. -/
def cpuGoesOnWrong : ChangeSpec := { name := "cpuGoesOn", fn := fun _ => fun
  | [d1, d2, d3] => { results := [.lit (.bool false)], args := [d1, d2, d3] }
  | _ => none }
def CpuGoesOnWrongFalsely : Prop := cpuGoesOnRow.holds Tryz.pinned (OpenSpec.ofChange cpuGoesOnWrong)

/-- 'pendulumlaw18.CpuNames': WHATEVER THE INPUT: true; the input reads as it did. -/
def cpuNamesSpec : ChangeSpec := { name := "cpuNames", fn := fun _ => fun
  | [] => { results := [.lit (.bool true)], args := [] }
  | _ => none }
def cpuNamesRow : OpenClaim := { program := "ytgopjbnmbaeelaagreatdoor", sum := "04a955c237f21669ec7c6ef580acc899451928dc0e2f37743465d8a0a241fd27", func := "pendulum/pendulumlaw18.CpuNames", spec := "cpuNames", unfollowed := true, recurses := true, named := ["pendulum/octet.table"], apart := false, laid := [("pendulum/octet.table", laid_pendulum_octet_table)] }
def CpuNamesSaid : Prop := cpuNamesRow.holds Tryz.pinned (OpenSpec.ofChange cpuNamesSpec)

/-- ITS FALSE NEIGHBOUR: 'it returns false'. Refute it at one input. -/
def cpuNamesWrong : ChangeSpec := { name := "cpuNames", fn := fun _ => fun
  | [] => { results := [.lit (.bool false)], args := [] }
  | _ => none }
def CpuNamesWrongFalsely : Prop := cpuNamesRow.holds Tryz.pinned (OpenSpec.ofChange cpuNamesWrong)

/- THE SECOND FORM. 'bulk': how many values and letters a reading holds, each counted each time it is reached (what is shared counts as often as it is met; a slice's spare places count too). A statement '..UptoSaid' is the law's where the arguments, and the package variables that the reading takes, are together of bulk at most 1048576: NARROWER than '..Said'. Prove '..Said' where nothing that the law and all that it calls make is longer than what came in: it says more and counts as full. Else prove '..UptoSaid'. A law counts once. -/
mutual
def uptoBulk {H : Type} : DataW H → Nat
  | .lit (.string bytes) => bytes.length + 1
  | .lit _ => 1
  | .nil => 1
  | .ptr d => uptoBulk d + 1
  | .slice elems spare => uptoBulkAll elems + uptoBulkAll spare + 1
  | .agg parts => uptoBulkAll parts + 1
  | .iface _ d => uptoBulk d + 1
  | .map entries => uptoBulkEntries entries + 1
  | .held _ => 1
def uptoBulkAll {H : Type} : List (DataW H) → Nat
  | [] => 0
  | d :: r => uptoBulk d + uptoBulkAll r
def uptoBulkEntries {H : Type} : List (Lit × DataW H) → Nat
  | [] => 0
  | x :: r => uptoBulkEntry x + uptoBulkEntries r
def uptoBulkEntry {H : Type} : Lit × DataW H → Nat
  | (.string bytes, d) => bytes.length + uptoBulk d + 1
  | (_, d) => uptoBulk d + 1
 end
def uptoSmall : (H : Type) → List (DataW H) → Bool := fun _ ds => decide (uptoBulkAll ds ≤ 1048576)
def OpenSpec.upto (s : _root_.Go.ChangeSpec) : _root_.Go.OpenSpec := { _root_.Go.OpenSpec.ofChange s with cond := some uptoSmall }

/-- 'pendulumlaw18.CpuNil', WHERE WHAT IT READS IS OF BULK AT MOST 1048576: true; the input reads as it did. -/
def cpuNilUptoRow : OpenClaim := { program := "ytgopjbnmbaeelaagreatdoor", sum := "04a955c237f21669ec7c6ef580acc899451928dc0e2f37743465d8a0a241fd27", func := "pendulum/pendulumlaw18.CpuNil", spec := "cpuNil", unfollowed := true, recurses := true, named := ["pendulum/octet.table"], apart := false, laid := [("pendulum/octet.table", laid_pendulum_octet_table)], narrowed := true }
def CpuNilUptoSaid : Prop := cpuNilUptoRow.holds Tryz.pinned (OpenSpec.upto cpuNilSpec)

/-- 'pendulumlaw18.CpuGoesOn', WHERE WHAT IT READS IS OF BULK AT MOST 1048576: true; the input reads as it did. -/
def cpuGoesOnUptoRow : OpenClaim := { program := "ytgopjbnmbaeelaagreatdoor", sum := "04a955c237f21669ec7c6ef580acc899451928dc0e2f37743465d8a0a241fd27", func := "pendulum/pendulumlaw18.CpuGoesOn", spec := "cpuGoesOn", unfollowed := true, recurses := true, named := ["pendulum/octet.table"], apart := false, laid := [("pendulum/octet.table", laid_pendulum_octet_table)], narrowed := true }
def CpuGoesOnUptoSaid : Prop := cpuGoesOnUptoRow.holds Tryz.pinned (OpenSpec.upto cpuGoesOnSpec)

/-- 'pendulumlaw18.CpuNames', WHERE WHAT IT READS IS OF BULK AT MOST 1048576: true; the input reads as it did. -/
def cpuNamesUptoRow : OpenClaim := { program := "ytgopjbnmbaeelaagreatdoor", sum := "04a955c237f21669ec7c6ef580acc899451928dc0e2f37743465d8a0a241fd27", func := "pendulum/pendulumlaw18.CpuNames", spec := "cpuNames", unfollowed := true, recurses := true, named := ["pendulum/octet.table"], apart := false, laid := [("pendulum/octet.table", laid_pendulum_octet_table)], narrowed := true }
def CpuNamesUptoSaid : Prop := cpuNamesUptoRow.holds Tryz.pinned (OpenSpec.upto cpuNamesSpec)

end Rows
end Go.Proofs.YtgopjbnmbaeelaaGreatDoor
