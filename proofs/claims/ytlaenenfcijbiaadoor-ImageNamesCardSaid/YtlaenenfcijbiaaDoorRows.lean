/-
  NARROWER THAN 'FOR EVERY INPUT', by the rows' own cells (each row's printed sentence says how): ImageNames: laid · ImageBack: laid · ImageCalls: laid.
  DERIVED. THE GIVEN ROWS OF THIS SEAT. 3 by the template 'for every input the law returns true; each argument reads behind the call as it read before'; 0 by the template 'total and deterministic' (their statements: YtlaenenfcijbiaaDoorTotals.lean).
  GIVEN WITH THE SEED: the statements are not yours to turn. If you find one false, say at which input.
  Laid BY PROGRAM, IN A SANDBOX (cutbox-rows.mjs): the forced cells as the released guide's own fill.sh prints them over the translation 8d53343f2144b0c9… (all of the seat's roots in one cut). By AI agents, Wed Nov 11 2026. No macro, syntax, notation, axiom, sorry.
-/
import Derived.Test.YtlaenenfcijbiaaDoorChecked
import GoSem.Claim
import GoSem.ClaimJoined
import GoSem.ClaimMapViews
import Derived.JoinedTies
import Derived.KernelRfl
namespace Go.Proofs.YtlaenenfcijbiaaDoor
/- THE CELL 'sum', in the pinned program and in every row, IS THE sha256 OF THE DUMP (.gsa) THAT YtlaenenfcijbiaaDoorProg.lean LOADS. Nothing in Lean hashes anything: it is a label: what it is worth is what the hold of that sum in a sandbox is worth. -/
noncomputable def Tryd.pinned : Pinned := { name := "ytlaenenfcijbiaadoor", sum := "8d53343f2144b0c9ca11eb19ad86fc86f38821b921739f59368f90e057a9b8a3", checked := Tryd.checked }
namespace Rows
def none {H : Type} : Left H := { results := [], args := [] }

/- WHAT THE LISTED PACKAGE-LEVEL VARIABLES READ AS WHEN THE CALL BEGINS. Each datum BY PROGRAM (the guide's laid-datum.mjs) off the statement by which the dump's own 'gosem.cut.vars' lays the variable. In a bare row this is a premise. The card (YtlaenenfcijbiaaDoorCards.lean) ties it to the program's text. -/
def laid_pendulum_octet_table {H : Type} : DataW H := .agg [.lit (.int .u16 0), .lit (.int .u16 4129), .lit (.int .u16 8258), .lit (.int .u16 12387), .lit (.int .u16 16516), .lit (.int .u16 20645), .lit (.int .u16 24774), .lit (.int .u16 28903), .lit (.int .u16 33032), .lit (.int .u16 37161), .lit (.int .u16 41290), .lit (.int .u16 45419), .lit (.int .u16 49548), .lit (.int .u16 53677), .lit (.int .u16 57806), .lit (.int .u16 61935)]

/-- 'pendulumlaw21.ImageNames': WHATEVER THE INPUT: true; the input reads as it did. -/
def imageNamesSpec : ChangeSpec := { name := "imageNames", fn := fun _ => fun
  | [] => { results := [.lit (.bool true)], args := [] }
  | _ => none }
def imageNamesRow : OpenClaim := { program := "ytlaenenfcijbiaadoor", sum := "8d53343f2144b0c9ca11eb19ad86fc86f38821b921739f59368f90e057a9b8a3", func := "pendulum/pendulumlaw21.ImageNames", spec := "imageNames", unfollowed := true, recurses := true, named := ["pendulum/octet.table"], plainKeys := false, apart := false, laid := [("pendulum/octet.table", laid_pendulum_octet_table)] }
def ImageNamesSaid : Prop := imageNamesRow.holds Tryd.pinned (OpenSpec.ofChange imageNamesSpec)

/-- ITS FALSE NEIGHBOUR: 'it returns false'. Refute it at one input. -/
def imageNamesWrong : ChangeSpec := { name := "imageNames", fn := fun _ => fun
  | [] => { results := [.lit (.bool false)], args := [] }
  | _ => none }
def ImageNamesWrongFalsely : Prop := imageNamesRow.holds Tryd.pinned (OpenSpec.ofChange imageNamesWrong)

/-- 'pendulumlaw21.ImageBack': WHATEVER THE INPUT: true; the input reads as it did. -/
def imageBackSpec : ChangeSpec := { name := "imageBack", fn := fun _ => fun
  | [d1, d2, d3, d4, d5, d6] => { results := [.lit (.bool true)], args := [d1, d2, d3, d4, d5, d6] }
  | _ => none }
def imageBackRow : OpenClaim := { program := "ytlaenenfcijbiaadoor", sum := "8d53343f2144b0c9ca11eb19ad86fc86f38821b921739f59368f90e057a9b8a3", func := "pendulum/pendulumlaw21.ImageBack", spec := "imageBack", unfollowed := true, recurses := true, named := ["pendulum/octet.table"], plainKeys := false, apart := false, laid := [("pendulum/octet.table", laid_pendulum_octet_table)] }
def ImageBackSaid : Prop := imageBackRow.holds Tryd.pinned (OpenSpec.ofChange imageBackSpec)

/-- ITS FALSE NEIGHBOUR: 'it returns false'. Refute it at one input. -/
def imageBackWrong : ChangeSpec := { name := "imageBack", fn := fun _ => fun
  | [d1, d2, d3, d4, d5, d6] => { results := [.lit (.bool false)], args := [d1, d2, d3, d4, d5, d6] }
  | _ => none }
def ImageBackWrongFalsely : Prop := imageBackRow.holds Tryd.pinned (OpenSpec.ofChange imageBackWrong)

/-- 'pendulumlaw21.ImageCalls': WHATEVER THE INPUT: true; the input reads as it did. -/
def imageCallsSpec : ChangeSpec := { name := "imageCalls", fn := fun _ => fun
  | [d1, d2, d3, d4, d5, d6, d7, d8, d9] => { results := [.lit (.bool true)], args := [d1, d2, d3, d4, d5, d6, d7, d8, d9] }
  | _ => none }
def imageCallsRow : OpenClaim := { program := "ytlaenenfcijbiaadoor", sum := "8d53343f2144b0c9ca11eb19ad86fc86f38821b921739f59368f90e057a9b8a3", func := "pendulum/pendulumlaw21.ImageCalls", spec := "imageCalls", unfollowed := true, recurses := true, named := ["pendulum/octet.table"], plainKeys := false, apart := false, laid := [("pendulum/octet.table", laid_pendulum_octet_table)] }
def ImageCallsSaid : Prop := imageCallsRow.holds Tryd.pinned (OpenSpec.ofChange imageCallsSpec)

/-- ITS FALSE NEIGHBOUR: 'it returns false'. Refute it at one input. -/
def imageCallsWrong : ChangeSpec := { name := "imageCalls", fn := fun _ => fun
  | [d1, d2, d3, d4, d5, d6, d7, d8, d9] => { results := [.lit (.bool false)], args := [d1, d2, d3, d4, d5, d6, d7, d8, d9] }
  | _ => none }
def ImageCallsWrongFalsely : Prop := imageCallsRow.holds Tryd.pinned (OpenSpec.ofChange imageCallsWrong)

/- THE SECOND FORM. 'bulk': how many values and letters a reading holds, each counted each time it is reached (what is shared counts as often as it is met; a slice's spare places count too). A statement '..UptoSaid' is the law's where the arguments, and the package variables that the reading takes, are together of bulk at most 1048576: NARROWER than '..Said'. Prove '..Said' where nothing that the law and all that it calls make is longer than what came in: it says more and counts as full. Else prove '..UptoSaid'. A law counts once. -/
mutual
def uptoBulk {H : Type} : DataW H → Nat
  | .lit (.string bytes) => bytes.length + 1
  | .lit _ => 1
  | .nil => 1
  | .ptr d => uptoBulk d + 1
  | .slice elems spare => uptoBulkAll elems + uptoBulkAll spare + 1
  | .agg parts => uptoBulkAll parts + 1
  | .iface _ d => uptoBulk d + 1
  | .map entries => uptoBulkEntries entries + 1
  | .held _ => 1
def uptoBulkAll {H : Type} : List (DataW H) → Nat
  | [] => 0
  | d :: r => uptoBulk d + uptoBulkAll r
def uptoBulkEntries {H : Type} : List (Lit × DataW H) → Nat
  | [] => 0
  | x :: r => uptoBulkEntry x + uptoBulkEntries r
def uptoBulkEntry {H : Type} : Lit × DataW H → Nat
  | (.string bytes, d) => bytes.length + uptoBulk d + 1
  | (_, d) => uptoBulk d + 1
 end
def uptoSmall : (H : Type) → List (DataW H) → Bool := fun _ ds => decide (uptoBulkAll ds ≤ 1048576)
def OpenSpec.upto (s : _root_.Go.ChangeSpec) : _root_.Go.OpenSpec := { _root_.Go.OpenSpec.ofChange s with cond := some uptoSmall }

/-- 'pendulumlaw21.ImageNames', WHERE WHAT IT READS IS OF BULK AT MOST 1048576: true; the input reads as it did. -/
def imageNamesUptoRow : OpenClaim := { program := "ytlaenenfcijbiaadoor", sum := "8d53343f2144b0c9ca11eb19ad86fc86f38821b921739f59368f90e057a9b8a3", func := "pendulum/pendulumlaw21.ImageNames", spec := "imageNames", unfollowed := true, recurses := true, named := ["pendulum/octet.table"], plainKeys := false, apart := false, laid := [("pendulum/octet.table", laid_pendulum_octet_table)], narrowed := true }
def ImageNamesUptoSaid : Prop := imageNamesUptoRow.holds Tryd.pinned (OpenSpec.upto imageNamesSpec)

/-- 'pendulumlaw21.ImageBack', WHERE WHAT IT READS IS OF BULK AT MOST 1048576: true; the input reads as it did. -/
def imageBackUptoRow : OpenClaim := { program := "ytlaenenfcijbiaadoor", sum := "8d53343f2144b0c9ca11eb19ad86fc86f38821b921739f59368f90e057a9b8a3", func := "pendulum/pendulumlaw21.ImageBack", spec := "imageBack", unfollowed := true, recurses := true, named := ["pendulum/octet.table"], plainKeys := false, apart := false, laid := [("pendulum/octet.table", laid_pendulum_octet_table)], narrowed := true }
def ImageBackUptoSaid : Prop := imageBackUptoRow.holds Tryd.pinned (OpenSpec.upto imageBackSpec)

/-- 'pendulumlaw21.ImageCalls', WHERE WHAT IT READS IS OF BULK AT MOST 1048576: true; the input reads as it did. -/
def imageCallsUptoRow : OpenClaim := { program := "ytlaenenfcijbiaadoor", sum := "8d53343f2144b0c9ca11eb19ad86fc86f38821b921739f59368f90e057a9b8a3", func := "pendulum/pendulumlaw21.ImageCalls", spec := "imageCalls", unfollowed := true, recurses := true, named := ["pendulum/octet.table"], plainKeys := false, apart := false, laid := [("pendulum/octet.table", laid_pendulum_octet_table)], narrowed := true }
def ImageCallsUptoSaid : Prop := imageCallsUptoRow.holds Tryd.pinned (OpenSpec.upto imageCallsSpec)

end Rows
end Go.Proofs.YtlaenenfcijbiaaDoor
