/-
  NARROWER THAN 'FOR EVERY INPUT', by the rows' own cells (each row's printed sentence says how): OctetSees: laid · OctetNames: laid · OctetPuts: laid · OctetBack: laid · OctetOnly: laid · OctetNil: laid.
  DERIVED. THE GIVEN ROWS OF THIS SEAT. 6 by the template 'for every input the law returns true; each argument reads behind the call as it read before'; 0 by the template 'total and deterministic' (their statements: YtkbclhkcceennaaDoorTotals.lean).
  GIVEN WITH THE SEED: the statements are not yours to turn. If you find one false, say at which input.
  Laid BY PROGRAM, IN A SANDBOX (cutbox-rows.mjs): the forced cells as the released guide's own fill.sh prints them over the translation 8cb83fc2fe4755c2… (all of the seat's roots in one cut). By AI agents, Wed Nov 11 2026. No macro, syntax, notation, axiom, sorry.
-/
import Derived.Test.YtkbclhkcceennaaDoorChecked
import GoSem.Claim
import GoSem.ClaimJoined
import GoSem.ClaimMapViews
import Derived.JoinedTies
import Derived.KernelRfl
namespace Go.Proofs.YtkbclhkcceennaaDoor
/- THE CELL 'sum', in the pinned program and in every row, IS THE sha256 OF THE DUMP (.gsa) THAT YtkbclhkcceennaaDoorProg.lean LOADS. Nothing in Lean hashes anything: it is a label: what it is worth is what the hold of that sum in a sandbox is worth. -/
noncomputable def Tryd.pinned : Pinned := { name := "ytkbclhkcceennaadoor", sum := "8cb83fc2fe4755c2cedfebcc9a86a49ba1e6da35688b4193985689d26e42ecdb", checked := Tryd.checked }
namespace Rows
def none {H : Type} : Left H := { results := [], args := [] }

/- WHAT THE LISTED PACKAGE-LEVEL VARIABLES READ AS WHEN THE CALL BEGINS. Each datum BY PROGRAM (the guide's laid-datum.mjs) off the statement by which the dump's own 'gosem.cut.vars' lays the variable. In a bare row this is a premise. The card (YtkbclhkcceennaaDoorCards.lean) ties it to the program's text. -/
def laid_pendulum_octet_table {H : Type} : DataW H := .agg [.lit (.int .u16 0), .lit (.int .u16 4129), .lit (.int .u16 8258), .lit (.int .u16 12387), .lit (.int .u16 16516), .lit (.int .u16 20645), .lit (.int .u16 24774), .lit (.int .u16 28903), .lit (.int .u16 33032), .lit (.int .u16 37161), .lit (.int .u16 41290), .lit (.int .u16 45419), .lit (.int .u16 49548), .lit (.int .u16 53677), .lit (.int .u16 57806), .lit (.int .u16 61935)]

/-- 'pendulumlaw01.OctetSees': WHATEVER THE INPUT: true; the input reads as it did. -/
def octetSeesSpec : ChangeSpec := { name := "octetSees", fn := fun _ => fun
  | [d1, d2, d3, d4] => { results := [.lit (.bool true)], args := [d1, d2, d3, d4] }
  | _ => none }
def octetSeesRow : OpenClaim := { program := "ytkbclhkcceennaadoor", sum := "8cb83fc2fe4755c2cedfebcc9a86a49ba1e6da35688b4193985689d26e42ecdb", func := "pendulum/pendulumlaw01.OctetSees", spec := "octetSees", named := ["pendulum/octet.table"], apart := false, laid := [("pendulum/octet.table", laid_pendulum_octet_table)] }
def OctetSeesSaid : Prop := octetSeesRow.holds Tryd.pinned (OpenSpec.ofChange octetSeesSpec)

/-- ITS FALSE NEIGHBOUR: 'it returns false'. Refute it at one input. -/
def octetSeesWrong : ChangeSpec := { name := "octetSees", fn := fun _ => fun
  | [d1, d2, d3, d4] => { results := [.lit (.bool false)], args := [d1, d2, d3, d4] }
  | _ => none }
def OctetSeesWrongFalsely : Prop := octetSeesRow.holds Tryd.pinned (OpenSpec.ofChange octetSeesWrong)

/-- 'pendulumlaw01.OctetNames': WHATEVER THE INPUT: true; the input reads as it did. -/
def octetNamesSpec : ChangeSpec := { name := "octetNames", fn := fun _ => fun
  | [] => { results := [.lit (.bool true)], args := [] }
  | _ => none }
def octetNamesRow : OpenClaim := { program := "ytkbclhkcceennaadoor", sum := "8cb83fc2fe4755c2cedfebcc9a86a49ba1e6da35688b4193985689d26e42ecdb", func := "pendulum/pendulumlaw01.OctetNames", spec := "octetNames", named := ["pendulum/octet.table"], apart := false, laid := [("pendulum/octet.table", laid_pendulum_octet_table)] }
def OctetNamesSaid : Prop := octetNamesRow.holds Tryd.pinned (OpenSpec.ofChange octetNamesSpec)

/-- ITS FALSE NEIGHBOUR: 'it returns false'. Refute it at one input. -/
def octetNamesWrong : ChangeSpec := { name := "octetNames", fn := fun _ => fun
  | [] => { results := [.lit (.bool false)], args := [] }
  | _ => none }
def OctetNamesWrongFalsely : Prop := octetNamesRow.holds Tryd.pinned (OpenSpec.ofChange octetNamesWrong)

/-- 'pendulumlaw01.OctetPuts': WHATEVER THE INPUT: true; the input reads as it did. -/
def octetPutsSpec : ChangeSpec := { name := "octetPuts", fn := fun _ => fun
  | [d1, d2, d3, d4] => { results := [.lit (.bool true)], args := [d1, d2, d3, d4] }
  | _ => none }
def octetPutsRow : OpenClaim := { program := "ytkbclhkcceennaadoor", sum := "8cb83fc2fe4755c2cedfebcc9a86a49ba1e6da35688b4193985689d26e42ecdb", func := "pendulum/pendulumlaw01.OctetPuts", spec := "octetPuts", named := ["pendulum/octet.table"], apart := false, laid := [("pendulum/octet.table", laid_pendulum_octet_table)] }
def OctetPutsSaid : Prop := octetPutsRow.holds Tryd.pinned (OpenSpec.ofChange octetPutsSpec)

/-- ITS FALSE NEIGHBOUR: 'it returns false'. Refute it at one input. -/
def octetPutsWrong : ChangeSpec := { name := "octetPuts", fn := fun _ => fun
  | [d1, d2, d3, d4] => { results := [.lit (.bool false)], args := [d1, d2, d3, d4] }
  | _ => none }
def OctetPutsWrongFalsely : Prop := octetPutsRow.holds Tryd.pinned (OpenSpec.ofChange octetPutsWrong)

/-- 'pendulumlaw01.OctetBack': WHATEVER THE INPUT: true; the input reads as it did. -/
def octetBackSpec : ChangeSpec := { name := "octetBack", fn := fun _ => fun
  | [d1, d2, d3] => { results := [.lit (.bool true)], args := [d1, d2, d3] }
  | _ => none }
def octetBackRow : OpenClaim := { program := "ytkbclhkcceennaadoor", sum := "8cb83fc2fe4755c2cedfebcc9a86a49ba1e6da35688b4193985689d26e42ecdb", func := "pendulum/pendulumlaw01.OctetBack", spec := "octetBack", named := ["pendulum/octet.table"], apart := false, laid := [("pendulum/octet.table", laid_pendulum_octet_table)] }
def OctetBackSaid : Prop := octetBackRow.holds Tryd.pinned (OpenSpec.ofChange octetBackSpec)

/-- ITS FALSE NEIGHBOUR: 'it returns false'. Refute it at one input. -/
def octetBackWrong : ChangeSpec := { name := "octetBack", fn := fun _ => fun
  | [d1, d2, d3] => { results := [.lit (.bool false)], args := [d1, d2, d3] }
  | _ => none }
def OctetBackWrongFalsely : Prop := octetBackRow.holds Tryd.pinned (OpenSpec.ofChange octetBackWrong)

/-- 'pendulumlaw01.OctetOnly': WHATEVER THE INPUT: true; the input reads as it did. -/
def octetOnlySpec : ChangeSpec := { name := "octetOnly", fn := fun _ => fun
  | [d] => { results := [.lit (.bool true)], args := [d] }
  | _ => none }
def octetOnlyRow : OpenClaim := { program := "ytkbclhkcceennaadoor", sum := "8cb83fc2fe4755c2cedfebcc9a86a49ba1e6da35688b4193985689d26e42ecdb", func := "pendulum/pendulumlaw01.OctetOnly", spec := "octetOnly", named := ["pendulum/octet.table"], apart := false, laid := [("pendulum/octet.table", laid_pendulum_octet_table)] }
def OctetOnlySaid : Prop := octetOnlyRow.holds Tryd.pinned (OpenSpec.ofChange octetOnlySpec)

/-- ITS FALSE NEIGHBOUR: 'it returns false'. Refute it at one input. -/
def octetOnlyWrong : ChangeSpec := { name := "octetOnly", fn := fun _ => fun
  | [d] => { results := [.lit (.bool false)], args := [d] }
  | _ => none }
def OctetOnlyWrongFalsely : Prop := octetOnlyRow.holds Tryd.pinned (OpenSpec.ofChange octetOnlyWrong)

/-- 'pendulumlaw01.OctetNil': WHATEVER THE INPUT: true; the input reads as it did. -/
def octetNilSpec : ChangeSpec := { name := "octetNil", fn := fun _ => fun
  | [d] => { results := [.lit (.bool true)], args := [d] }
  | _ => none }
def octetNilRow : OpenClaim := { program := "ytkbclhkcceennaadoor", sum := "8cb83fc2fe4755c2cedfebcc9a86a49ba1e6da35688b4193985689d26e42ecdb", func := "pendulum/pendulumlaw01.OctetNil", spec := "octetNil", named := ["pendulum/octet.table"], apart := false, laid := [("pendulum/octet.table", laid_pendulum_octet_table)] }
def OctetNilSaid : Prop := octetNilRow.holds Tryd.pinned (OpenSpec.ofChange octetNilSpec)

/-- ITS FALSE NEIGHBOUR: 'it returns false'. Refute it at one input. -/
def octetNilWrong : ChangeSpec := { name := "octetNil", fn := fun _ => fun
  | [d] => { results := [.lit (.bool false)], args := [d] }
  | _ => none }
def OctetNilWrongFalsely : Prop := octetNilRow.holds Tryd.pinned (OpenSpec.ofChange octetNilWrong)

/- THE SECOND FORM. 'bulk': how many values and letters a reading holds, each counted each time it is reached (what is shared counts as often as it is met; a slice's spare places count too). A statement '..UptoSaid' is the law's where the arguments, and the package variables that the reading takes, are together of bulk at most 1048576: NARROWER than '..Said'. Prove '..Said' where nothing that the law and all that it calls make is longer than what came in: it says more and counts as full. Else prove '..UptoSaid'. A law counts once. -/
mutual
def uptoBulk {H : Type} : DataW H → Nat
  | .lit (.string bytes) => bytes.length + 1
  | .lit _ => 1
  | .nil => 1
  | .ptr d => uptoBulk d + 1
  | .slice elems spare => uptoBulkAll elems + uptoBulkAll spare + 1
  | .agg parts => uptoBulkAll parts + 1
  | .iface _ d => uptoBulk d + 1
  | .map entries => uptoBulkEntries entries + 1
  | .held _ => 1
def uptoBulkAll {H : Type} : List (DataW H) → Nat
  | [] => 0
  | d :: r => uptoBulk d + uptoBulkAll r
def uptoBulkEntries {H : Type} : List (Lit × DataW H) → Nat
  | [] => 0
  | x :: r => uptoBulkEntry x + uptoBulkEntries r
def uptoBulkEntry {H : Type} : Lit × DataW H → Nat
  | (.string bytes, d) => bytes.length + uptoBulk d + 1
  | (_, d) => uptoBulk d + 1
 end
def uptoSmall : (H : Type) → List (DataW H) → Bool := fun _ ds => decide (uptoBulkAll ds ≤ 1048576)
def OpenSpec.upto (s : _root_.Go.ChangeSpec) : _root_.Go.OpenSpec := { _root_.Go.OpenSpec.ofChange s with cond := some uptoSmall }

/-- 'pendulumlaw01.OctetSees', WHERE WHAT IT READS IS OF BULK AT MOST 1048576: true; the input reads as it did. -/
def octetSeesUptoRow : OpenClaim := { program := "ytkbclhkcceennaadoor", sum := "8cb83fc2fe4755c2cedfebcc9a86a49ba1e6da35688b4193985689d26e42ecdb", func := "pendulum/pendulumlaw01.OctetSees", spec := "octetSees", named := ["pendulum/octet.table"], apart := false, laid := [("pendulum/octet.table", laid_pendulum_octet_table)], narrowed := true }
def OctetSeesUptoSaid : Prop := octetSeesUptoRow.holds Tryd.pinned (OpenSpec.upto octetSeesSpec)

/-- 'pendulumlaw01.OctetNames', WHERE WHAT IT READS IS OF BULK AT MOST 1048576: true; the input reads as it did. -/
def octetNamesUptoRow : OpenClaim := { program := "ytkbclhkcceennaadoor", sum := "8cb83fc2fe4755c2cedfebcc9a86a49ba1e6da35688b4193985689d26e42ecdb", func := "pendulum/pendulumlaw01.OctetNames", spec := "octetNames", named := ["pendulum/octet.table"], apart := false, laid := [("pendulum/octet.table", laid_pendulum_octet_table)], narrowed := true }
def OctetNamesUptoSaid : Prop := octetNamesUptoRow.holds Tryd.pinned (OpenSpec.upto octetNamesSpec)

/-- 'pendulumlaw01.OctetPuts', WHERE WHAT IT READS IS OF BULK AT MOST 1048576: true; the input reads as it did. -/
def octetPutsUptoRow : OpenClaim := { program := "ytkbclhkcceennaadoor", sum := "8cb83fc2fe4755c2cedfebcc9a86a49ba1e6da35688b4193985689d26e42ecdb", func := "pendulum/pendulumlaw01.OctetPuts", spec := "octetPuts", named := ["pendulum/octet.table"], apart := false, laid := [("pendulum/octet.table", laid_pendulum_octet_table)], narrowed := true }
def OctetPutsUptoSaid : Prop := octetPutsUptoRow.holds Tryd.pinned (OpenSpec.upto octetPutsSpec)

/-- 'pendulumlaw01.OctetBack', WHERE WHAT IT READS IS OF BULK AT MOST 1048576: true; the input reads as it did. -/
def octetBackUptoRow : OpenClaim := { program := "ytkbclhkcceennaadoor", sum := "8cb83fc2fe4755c2cedfebcc9a86a49ba1e6da35688b4193985689d26e42ecdb", func := "pendulum/pendulumlaw01.OctetBack", spec := "octetBack", named := ["pendulum/octet.table"], apart := false, laid := [("pendulum/octet.table", laid_pendulum_octet_table)], narrowed := true }
def OctetBackUptoSaid : Prop := octetBackUptoRow.holds Tryd.pinned (OpenSpec.upto octetBackSpec)

/-- 'pendulumlaw01.OctetOnly', WHERE WHAT IT READS IS OF BULK AT MOST 1048576: true; the input reads as it did. -/
def octetOnlyUptoRow : OpenClaim := { program := "ytkbclhkcceennaadoor", sum := "8cb83fc2fe4755c2cedfebcc9a86a49ba1e6da35688b4193985689d26e42ecdb", func := "pendulum/pendulumlaw01.OctetOnly", spec := "octetOnly", named := ["pendulum/octet.table"], apart := false, laid := [("pendulum/octet.table", laid_pendulum_octet_table)], narrowed := true }
def OctetOnlyUptoSaid : Prop := octetOnlyUptoRow.holds Tryd.pinned (OpenSpec.upto octetOnlySpec)

/-- 'pendulumlaw01.OctetNil', WHERE WHAT IT READS IS OF BULK AT MOST 1048576: true; the input reads as it did. -/
def octetNilUptoRow : OpenClaim := { program := "ytkbclhkcceennaadoor", sum := "8cb83fc2fe4755c2cedfebcc9a86a49ba1e6da35688b4193985689d26e42ecdb", func := "pendulum/pendulumlaw01.OctetNil", spec := "octetNil", named := ["pendulum/octet.table"], apart := false, laid := [("pendulum/octet.table", laid_pendulum_octet_table)], narrowed := true }
def OctetNilUptoSaid : Prop := octetNilUptoRow.holds Tryd.pinned (OpenSpec.upto octetNilSpec)

end Rows
end Go.Proofs.YtkbclhkcceennaaDoor
