import Derived.Test.YtgopjbnmbaeelaaGreatDoorAeFDrawE
import Derived.Test.YtgopjbnmbaeelaaGreatDoorAeTop
set_option linter.unusedVariables false
namespace Go.AE.F
open Go Go.AE
variable {P : Program}

/-- The fast evaluator with the regions that draw. -/
noncomputable abbrev runC (P : Program) (X : ExtF) (lf n : Nat) (f : FuncId) (args : List Value) (s : St) : A := (fnC P X (drawK P) lf n f).go args s fun v s => some (v, s)

theorem runC_eq (X : ExtF) (lf n : Nat) (f : FuncId) (args : List Value) (s : St) : runC P X lf n f args s = callE P X (drawE P) lf n f args s := by
  have h := (fnC_eq (P := P) X (drawE P) (fun cf => drawE_nt cf) (drawK P) (fun cf nt hn => drawK_ok hn nt) lf n).1
  exact congrFun (congrFun (congrFun h f) args) s
end Go.AE.F
