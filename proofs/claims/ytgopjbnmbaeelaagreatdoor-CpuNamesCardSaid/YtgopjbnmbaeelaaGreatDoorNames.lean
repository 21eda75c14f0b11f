/-
  THE CHAPTER ON THE PROCESSOR: ITS EXAMPLES COME OUT AS IT TELLS: the law CpuNames answers true, from whatever memory in which the program's table lies as its text lays it.
  BY A VERIFIED EVALUATOR: the texts ..AeEval to ..AeTop (and those beside them) define an evaluator of the program's code and prove that what it finds is what the model does, whatever the tape answers; the kernel runs it here once.
-/
import Derived.Test.YtgopjbnmbaeelaaGreatDoorCards
import Derived.Test.YtgopjbnmbaeelaaGreatDoorTie
import Derived.WalkKit
import Derived.ProofKit
import Derived.OpenShut
import Derived.Deep.DeepHandedRow
import Derived.Lib.LaidTab
import Derived.Test.YtgopjbnmbaeelaaGreatDoorAeTop
import Derived.Test.YtgopjbnmbaeelaaGreatDoorAeDrawD
import Derived.Test.YtgopjbnmbaeelaaGreatDoorAeFTop
import Derived.Test.YtgopjbnmbaeelaaGreatDoorAeExt
import Derived.Test.YtgopjbnmbaeelaaGreatDoorAeTold
import Derived.Test.YtgopjbnmbaeelaaGreatDoorTold
set_option linter.unusedVariables false
namespace Go.Proofs.YtgopjbnmbaeelaaGreatDoor.cpuNames
open Go.ChangeShapes Go.WideShapes Go.ChangeAt Go.RowKit

theorem own : ownKnob Tryz.prog.godebug = none := by kernel_rfl
theorem g0 : Tryz.prog.globalNamed "pendulum/octet.table" = some 0 := by kernel_rfl
theorem gType0 : (Tryz.prog.globals[0]?).map (·.type) = some 152 := by kernel_rfl
theorem cells0 : Tryz.prog.cellsOf 152 = 16 := by kernel_rfl
theorem cellsE0 : Tryz.prog.cellsOf 22 = 1 := by kernel_rfl
def tab0 : List Int := [0, 4129, 8258, 12387, 16516, 20645, 24774, 28903, 33032, 37161, 41290, 45419, 49548, 53677, 57806, 61935]
theorem table0 {W : World} (h : laidMetH Tryz.prog Rows.cpuNamesRow.laid W) : Lib.TabIs Tryz.prog W "pendulum/octet.table" .u16 tab0 :=
  Lib.tabIs_of_head g0 gType0 Tryz.underlying152 Tryz.underlying22 cellsE0 cells0 (show laidMet Tryz.prog Rows.cpuNamesRow.laid W from h)
def tabs : AE.Tabs := [(0, tab0.map (.int .u16))]
theorem holds0 {W : World} (h : laidMetH Tryz.prog Rows.cpuNamesRow.laid W) : AE.Holds0 tabs W := by
  intro t ht
  simp only [tabs, List.mem_cons, List.not_mem_nil, or_false] at ht
  rcases ht with rfl
  · exact AE.tab_holds (table0 h) g0 (by decide)
theorem tabsOk : ∀ t ∈ tabs, t.2.all (fun v => AE.plain 8 v && AE.oneCell v) = true := by
  intro t ht
  simp only [tabs, List.mem_cons, List.not_mem_nil, or_false] at ht
  rcases ht with rfl
  · exact AE.tab_plain _ _

/-- THE EVALUATION, by the fast form of the evaluator. -/
theorem runF : AE.isV AE.isTrue (AE.F.runC Tryz.prog (told.X 10000 100) 10000 100 5 [] (AE.St0 tabs)) = true := by kernel_rfl
theorem run : AE.isV AE.isTrue (AE.callE Tryz.prog (told.X 10000 100) (AE.drawE Tryz.prog) 10000 100 5 [] (AE.St0 tabs)) = true := by
  rw [← AE.F.runC_eq]; exact runF

set_option maxRecDepth 100000 in
theorem contract (H : Type) (enc : TypeId × Value → H) (W : World) (base : Nat) (args : Array Value) (ds gs : List (DataW H)) (before : List MemPlace)
    (hval : ∀ (j : Nat) t v, Tryz.f5.params[j]? = some t → args[j]? = some v → Value.okWide Tryz.prog W .any base t v)
    (hW : DataW.Whole enc Tryz.prog Tryz.f5.params.toList Rows.cpuNamesSpec.vars false W args.toList ds gs before) (hL : laidMetH Tryz.prog Rows.cpuNamesRow.laid W) :
    Calls Tryz.prog 5 args W fun e W' => ∃ v, e = .returned v ∧ Rows.cpuNamesSpec.post enc Tryz.prog Tryz.f5 false true false false W args v W' := by
  have hW' := hW
  obtain ⟨p, q, hA0, hV, rfl, hfz, hnd⟩ := hW
  have hA : DataW.TrodAll enc Tryz.prog W 0 (fun _ => true) true Tryz.f5.params.toList args.toList ds p := hA0
  rw [Tryz.params5] at hA hval
  obtain ⟨h1, rfl, rfl⟩ := trodAll_nil hA
  obtain rfl : args = #[] := by cases args; simp_all
  obtain ⟨rfl, rfl⟩ := trodVars_none hV
  clear hA0
  simp only [List.append_nil] at hW'
  refine (AE.closed (args := []) (told.X_ok 10000 100) (AE.drawE_ok (by kernel_rfl)) rfl tabsOk (run ) W (holds0 hL)).mono fun e W' ⟨he, hb⟩ => ?_
  subst he
  exact ⟨_, rfl, _, _, _, [], [], [], hW', trodAll_cons_mk (shut_bool Tryz.underlying4 _) trodAll_mk0, rfl, rfl, hb.frame _, fun h => by cases h⟩

noncomputable def laidWorld (os : Os) : World :=
  { World.holding Tryz.prog os ⟨#[], #[], []⟩ with heap := ((World.holding Tryz.prog os ⟨#[], #[], []⟩).heap.modify 0 fun | .cells _ t frozen => .cells (tab0.map (.int .u16)).toArray t frozen | o => o) }
theorem laid_met (os : Os) : laidMet Tryz.prog Rows.cpuNamesRow.laid ((laidWorld os).forCall (fun _ _ => 0) ⟨#[], #[], []⟩).memory :=
  laidMet_of_run' 8 (by kernel_rfl) (by kernel_rfl)
theorem reads (os : Os) {H : Type} (enc : TypeId × Value → H) : ∃ places, DataW.whole enc Tryz.prog ((laidWorld os).forCall (fun _ _ => 0) ⟨#[], #[], []⟩).memory Tryz.f5.params.toList Rows.cpuNamesSpec.vars false (#[] : Array Value).toList 8 = some ([], [], places) :=
  ⟨[], by kernel_rfl⟩

set_option maxRecDepth 100000 in
theorem lifted (os : Os) (started : os.Started) (H : Type) (enc : TypeId × Value → H) (F : Stop.Interp) :
    ReturnsInHanded {} Tryz.checked os 5 .any ((OpenSpec.ofChange Rows.cpuNamesSpec).preRow enc Tryz.prog Tryz.f5 Rows.cpuNamesRow.domain false Rows.cpuNamesRow.laid) (((OpenSpec.ofChange Rows.cpuNamesSpec).at F).post enc Tryz.prog Tryz.f5 false true false false) := by
  obtain ⟨places, hx⟩ := reads os enc
  refine returnsInHanded_of_row (C := Tryz.checked) (s := OpenSpec.ofChange Rows.cpuNamesSpec) own started (by kernel_rfl) Tryz.func5
    (witness_row_at (enc := enc) (C := Tryz.checked) false (laidWorld os) #[] rfl (by kernel_rfl) (by kernel_rfl) (by kernel_rfl)
      (OpenSpec.preRow_of_cond 8 hx (by kernel_rfl) (fun k hk => by cases hk) (by kernel_rfl) (laid_met os))) ?_
  intro W base args ds gs before hval hW _ _ _ hL _ _
  exact contract H enc W base args ds gs before hval hW hL

theorem said : Rows.CpuNamesSaid :=
  OpenClaim.holds_of_cond 5 Tryz.f5 rfl rfl rfl rfl rfl rfl rfl ⟨rfl, rfl, rfl, rfl, rfl⟩ rfl rfl rfl rfl rfl (by kernel_rfl) Tryz.func5 (by kernel_rfl)
    (of_decide_eq_true (by kernel_rfl)) (by unfold Func.isWrapper; first | (rw [if_pos (by decide +kernel)]; kernel_rfl) | (rw [if_neg (by decide +kernel)]; exact ⟨rfl, rfl⟩))
    (fun os started H enc _ F => by rw [OpenClaim.pre_eq_preRow]; exact lifted os started H enc F)

theorem plain (f : FuncId) (fn : Func) (hf : Tryz.pinned.checked.prog.funcNamed "pendulum/pendulumlaw18.CpuNames" = some f) (hfn : Tryz.pinned.checked.prog.funcs[f]? = some fn) :
    true = Tryz.pinned.checked.prog.looks [] ∧ ∀ (j : Nat) t, fn.params[j]? = some t → Tryz.pinned.checked.prog.wantsStandIn t = false := by
  obtain rfl : f = 5 := Option.some.inj ((show Tryz.prog.funcNamed "pendulum/pendulumlaw18.CpuNames" = some 5 by kernel_rfl).symm.trans hf) |>.symm
  obtain rfl : fn = Tryz.f5 := (Option.some.inj (Tryz.func5.symm.trans hfn)).symm
  refine ⟨by kernel_rfl, fun j t ht => ?_⟩
  rw [Tryz.params5] at ht
  simp at ht

theorem card : Rows.CpuNamesCardSaid :=
  Claim7.holds_tied_plain_at .later [] _ _ _ _ said (fun _ h => by cases h) (by kernel_rfl) (fun _ h => by cases h) cpuNames_row_tie rfl ⟨rfl, rfl⟩ (by kernel_rfl) rfl plain (by kernel_rfl)
#print axioms card
end Go.Proofs.YtgopjbnmbaeelaaGreatDoor.cpuNames
