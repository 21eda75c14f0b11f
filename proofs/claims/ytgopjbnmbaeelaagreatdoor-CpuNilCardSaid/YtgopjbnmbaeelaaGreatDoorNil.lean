/-
  A PROCESSOR THAT NOBODY MADE ANSWERS ErrNil, AND NOTHING: the law CpuNil answers true, whatever the byte, the place and the time, from whatever memory in which the program's table lies as its text lays it.
  BY A VERIFIED EVALUATOR: the texts ..AeEval to ..AeTop (and those beside them) define an evaluator of the program's code and prove that what it finds is what the model does, whatever the tape answers; the kernel runs it here once.
-/
import Derived.Test.YtgopjbnmbaeelaaGreatDoorCards
import Derived.Test.YtgopjbnmbaeelaaGreatDoorTie
import Derived.WalkKit
import Derived.ProofKit
import Derived.OpenShut
import Derived.Deep.DeepHandedRow
import Derived.Lib.LaidTab
import Derived.Test.YtgopjbnmbaeelaaGreatDoorAeTop
import Derived.Test.YtgopjbnmbaeelaaGreatDoorAeDrawD
import Derived.Test.YtgopjbnmbaeelaaGreatDoorAeFTop
import Derived.Test.YtgopjbnmbaeelaaGreatDoorAeExt
import Derived.Test.YtgopjbnmbaeelaaGreatDoorAeTold
import Derived.Test.YtgopjbnmbaeelaaGreatDoorTold
set_option linter.unusedVariables false
namespace Go.Proofs.YtgopjbnmbaeelaaGreatDoor.cpuNil
open Go.ChangeShapes Go.WideShapes Go.ChangeAt Go.RowKit

theorem own : ownKnob Tryz.prog.godebug = none := by kernel_rfl
theorem g0 : Tryz.prog.globalNamed "pendulum/octet.table" = some 0 := by kernel_rfl
theorem gType0 : (Tryz.prog.globals[0]?).map (·.type) = some 152 := by kernel_rfl
theorem cells0 : Tryz.prog.cellsOf 152 = 16 := by kernel_rfl
theorem cellsE0 : Tryz.prog.cellsOf 22 = 1 := by kernel_rfl
def tab0 : List Int := [0, 4129, 8258, 12387, 16516, 20645, 24774, 28903, 33032, 37161, 41290, 45419, 49548, 53677, 57806, 61935]
theorem table0 {W : World} (h : laidMetH Tryz.prog Rows.cpuNilRow.laid W) : Lib.TabIs Tryz.prog W "pendulum/octet.table" .u16 tab0 :=
  Lib.tabIs_of_head g0 gType0 Tryz.underlying152 Tryz.underlying22 cellsE0 cells0 (show laidMet Tryz.prog Rows.cpuNilRow.laid W from h)
def tabs : AE.Tabs := [(0, tab0.map (.int .u16))]
theorem holds0 {W : World} (h : laidMetH Tryz.prog Rows.cpuNilRow.laid W) : AE.Holds0 tabs W := by
  intro t ht
  simp only [tabs, List.mem_cons, List.not_mem_nil, or_false] at ht
  rcases ht with rfl
  · exact AE.tab_holds (table0 h) g0 (by decide)
theorem tabsOk : ∀ t ∈ tabs, t.2.all (fun v => AE.plain 8 v && AE.oneCell v) = true := by
  intro t ht
  simp only [tabs, List.mem_cons, List.not_mem_nil, or_false] at ht
  rcases ht with rfl
  · exact AE.tab_plain _ _

/-- THE EVALUATION, by the fast form of the evaluator. -/
theorem runF (x0 : Int) (x1 : Int) (x2 : Int): AE.isV AE.isTrue (AE.F.runC Tryz.prog (told.X 10000 100) 10000 100 3 [Value.int .u8 x0, Value.int .u16 x1, Value.int .i64 x2] (AE.St0 tabs)) = true := by kernel_rfl
theorem run (x0 : Int) (x1 : Int) (x2 : Int): AE.isV AE.isTrue (AE.callE Tryz.prog (told.X 10000 100) (AE.drawE Tryz.prog) 10000 100 3 [Value.int .u8 x0, Value.int .u16 x1, Value.int .i64 x2] (AE.St0 tabs)) = true := by
  rw [← AE.F.runC_eq]; exact runF x0 x1 x2

set_option maxRecDepth 100000 in
theorem contract (H : Type) (enc : TypeId × Value → H) (W : World) (base : Nat) (args : Array Value) (ds gs : List (DataW H)) (before : List MemPlace)
    (hval : ∀ (j : Nat) t v, Tryz.f3.params[j]? = some t → args[j]? = some v → Value.okWide Tryz.prog W .any base t v)
    (hW : DataW.Whole enc Tryz.prog Tryz.f3.params.toList Rows.cpuNilSpec.vars false W args.toList ds gs before) (hL : laidMetH Tryz.prog Rows.cpuNilRow.laid W) :
    Calls Tryz.prog 3 args W fun e W' => ∃ v, e = .returned v ∧ Rows.cpuNilSpec.post enc Tryz.prog Tryz.f3 false true false false W args v W' := by
  have hW' := hW
  obtain ⟨p, q, hA0, hV, rfl, hfz, hnd⟩ := hW
  have hA : DataW.TrodAll enc Tryz.prog W 0 (fun _ => true) true Tryz.f3.params.toList args.toList ds p := hA0
  rw [Tryz.params3] at hA hval
  obtain ⟨v0, vs0, d0, ds0, p0, q0, hargs, rfl, rfl, h0, r0⟩ := trodAll_cons hA
  obtain ⟨v1, vs1, d1, ds1, p1, q1, rfl, rfl, rfl, h1, r1⟩ := trodAll_cons r0
  obtain ⟨v2, vs2, d2, ds2, p2, q2, rfl, rfl, rfl, h2, r2⟩ := trodAll_cons r1
  obtain ⟨rfl, rfl, rfl⟩ := trodAll_nil r2
  obtain rfl : args = #[v0, v1, v2] := Array.ext' hargs
  obtain ⟨rfl, rfl⟩ := trodVars_none hV
  obtain ⟨x0, rfl, rfl, rfl, wx0⟩ := open_int Tryz.underlying5 (hval 0 5 v0 rfl rfl) h0
  obtain ⟨x1, rfl, rfl, rfl, wx1⟩ := open_int Tryz.underlying22 (hval 1 22 v1 rfl rfl) h1
  obtain ⟨x2, rfl, rfl, rfl, wx2⟩ := open_int Tryz.underlying2 (hval 2 2 v2 rfl rfl) h2
  clear hA0
  simp only [List.append_nil] at hW'
  refine (AE.closed (args := [Value.int .u8 x0, Value.int .u16 x1, Value.int .i64 x2]) (told.X_ok 10000 100) (AE.drawE_ok (by kernel_rfl)) rfl tabsOk (run x0 x1 x2) W (holds0 hL)).mono fun e W' ⟨he, hb⟩ => ?_
  subst he
  exact ⟨_, rfl, _, _, _, [], [], [], hW', trodAll_cons_mk (shut_bool Tryz.underlying4 _) trodAll_mk0, (trodAll_cons_mk (shut_int Tryz.underlying5 wx0) (trodAll_cons_mk (shut_int Tryz.underlying22 wx1) (trodAll_cons_mk (shut_int Tryz.underlying2 wx2) trodAll_mk0))), rfl, hb.frame _, fun h => by cases h⟩

noncomputable def laidWorld (os : Os) : World :=
  { World.holding Tryz.prog os ⟨#[], #[], []⟩ with heap := ((World.holding Tryz.prog os ⟨#[], #[], []⟩).heap.modify 0 fun | .cells _ t frozen => .cells (tab0.map (.int .u16)).toArray t frozen | o => o) }
theorem laid_met (os : Os) : laidMet Tryz.prog Rows.cpuNilRow.laid ((laidWorld os).forCall (fun _ _ => 0) ⟨#[], #[.int .u8 0, .int .u16 0, .int .i64 0], []⟩).memory :=
  laidMet_of_run' 8 (by kernel_rfl) (by kernel_rfl)
theorem reads (os : Os) {H : Type} (enc : TypeId × Value → H) : ∃ places, DataW.whole enc Tryz.prog ((laidWorld os).forCall (fun _ _ => 0) ⟨#[], #[.int .u8 0, .int .u16 0, .int .i64 0], []⟩).memory Tryz.f3.params.toList Rows.cpuNilSpec.vars false (#[.int .u8 0, .int .u16 0, .int .i64 0] : Array Value).toList 8 = some ([.lit (.int .u8 0), .lit (.int .u16 0), .lit (.int .i64 0)], [], places) :=
  ⟨[], by kernel_rfl⟩

set_option maxRecDepth 100000 in
theorem lifted (os : Os) (started : os.Started) (H : Type) (enc : TypeId × Value → H) (F : Stop.Interp) :
    ReturnsInHanded {} Tryz.checked os 3 .any ((OpenSpec.ofChange Rows.cpuNilSpec).preRow enc Tryz.prog Tryz.f3 Rows.cpuNilRow.domain false Rows.cpuNilRow.laid) (((OpenSpec.ofChange Rows.cpuNilSpec).at F).post enc Tryz.prog Tryz.f3 false true false false) := by
  obtain ⟨places, hx⟩ := reads os enc
  refine returnsInHanded_of_row (C := Tryz.checked) (s := OpenSpec.ofChange Rows.cpuNilSpec) own started (by kernel_rfl) Tryz.func3
    (witness_row_at (enc := enc) (C := Tryz.checked) false (laidWorld os) #[.int .u8 0, .int .u16 0, .int .i64 0] rfl (by kernel_rfl) (by kernel_rfl) (by kernel_rfl)
      (OpenSpec.preRow_of_cond 8 hx (by kernel_rfl) (fun k hk => by cases hk) (by kernel_rfl) (laid_met os))) ?_
  intro W base args ds gs before hval hW _ _ _ hL _ _
  exact contract H enc W base args ds gs before hval hW hL

theorem said : Rows.CpuNilSaid :=
  OpenClaim.holds_of_cond 3 Tryz.f3 rfl rfl rfl rfl rfl rfl rfl ⟨rfl, rfl, rfl, rfl, rfl⟩ rfl rfl rfl rfl rfl (by kernel_rfl) Tryz.func3 (by kernel_rfl)
    (of_decide_eq_true (by kernel_rfl)) (by unfold Func.isWrapper; first | (rw [if_pos (by decide +kernel)]; kernel_rfl) | (rw [if_neg (by decide +kernel)]; exact ⟨rfl, rfl⟩))
    (fun os started H enc _ F => by rw [OpenClaim.pre_eq_preRow]; exact lifted os started H enc F)

theorem plain (f : FuncId) (fn : Func) (hf : Tryz.pinned.checked.prog.funcNamed "pendulum/pendulumlaw18.CpuNil" = some f) (hfn : Tryz.pinned.checked.prog.funcs[f]? = some fn) :
    true = Tryz.pinned.checked.prog.looks [] ∧ ∀ (j : Nat) t, fn.params[j]? = some t → Tryz.pinned.checked.prog.wantsStandIn t = false := by
  obtain rfl : f = 3 := Option.some.inj ((show Tryz.prog.funcNamed "pendulum/pendulumlaw18.CpuNil" = some 3 by kernel_rfl).symm.trans hf) |>.symm
  obtain rfl : fn = Tryz.f3 := (Option.some.inj (Tryz.func3.symm.trans hfn)).symm
  refine ⟨by kernel_rfl, fun j t ht => ?_⟩
  rw [Tryz.params3] at ht
  have hm := Array.mem_of_getElem? ht
  simp only [List.mem_toArray, List.mem_cons, List.not_mem_nil, or_false] at hm
  rcases hm with rfl | rfl | rfl
  · exact (show Tryz.prog.wantsStandIn 5 = false by kernel_rfl)
  · exact (show Tryz.prog.wantsStandIn 22 = false by kernel_rfl)
  · exact (show Tryz.prog.wantsStandIn 2 = false by kernel_rfl)

theorem card : Rows.CpuNilCardSaid :=
  Claim7.holds_tied_plain_at .later [] _ _ _ _ said (fun _ h => by cases h) (by kernel_rfl) (fun _ h => by cases h) cpuNil_row_tie rfl ⟨rfl, rfl⟩ (by kernel_rfl) rfl plain (by kernel_rfl)
#print axioms card
end Go.Proofs.YtgopjbnmbaeelaaGreatDoor.cpuNil
