/-
  A CONTROLLER THAT NOBODY MADE ANSWERS ErrNil, AND NOTHING: the law FdcNil answers true, whatever the class and the byte, from whatever memory in which the program's table lies as its text lays it.
  BY A VERIFIED EVALUATOR: the texts ..AeEval to ..AeTop (and those beside them) define an evaluator of the program's code and prove that what it finds is what the model does, whatever the tape answers; the kernel runs it here once.
-/
import Derived.Test.YtkcmgcneecgpgaaDoorCards
import Derived.Test.YtkcmgcneecgpgaaDoorTie
import Derived.WalkKit
import Derived.ProofKit
import Derived.OpenShut
import Derived.Deep.DeepHandedRow
import Derived.Lib.LaidTab
import Derived.Test.YtkcmgcneecgpgaaDoorAeTop
import Derived.Test.YtkcmgcneecgpgaaDoorAeDrawD
import Derived.Test.YtkcmgcneecgpgaaDoorAeFTop
set_option linter.unusedVariables false
namespace Go.Proofs.YtkcmgcneecgpgaaDoor.fdcNil
open Go.ChangeShapes Go.WideShapes Go.ChangeAt Go.RowKit

theorem own : ownKnob Tryd.prog.godebug = none := by kernel_rfl
theorem gTab : Tryd.prog.globalNamed "pendulum/octet.table" = some 0 := by kernel_rfl
theorem gTabType : (Tryd.prog.globals[0]?).map (·.type) = some 115 := by kernel_rfl
theorem cellsTab : Tryd.prog.cellsOf 115 = 16 := by kernel_rfl
theorem cellsEl : Tryd.prog.cellsOf 95 = 1 := by kernel_rfl
def tab : List Int := [0, 4129, 8258, 12387, 16516, 20645, 24774, 28903, 33032, 37161, 41290, 45419, 49548, 53677, 57806, 61935]
theorem table {W : World} (h : laidMetH Tryd.prog Rows.fdcNilRow.laid W) : Lib.TabIs Tryd.prog W "pendulum/octet.table" .u16 tab :=
  Lib.tabIs_of_head (rest := []) gTab gTabType Tryd.underlying115 Tryd.underlying95 cellsEl cellsTab h
def tabs : AE.Tabs := [(0, tab.map (.int .u16))]
theorem holds0 {W : World} (h : laidMetH Tryd.prog Rows.fdcNilRow.laid W) : AE.Holds0 tabs W := by
  intro t ht
  obtain rfl : t = (0, tab.map (.int .u16)) := by simpa [tabs] using ht
  refine ⟨by simp [tab], fun i v hv => ?_⟩
  rw [List.getElem?_map] at hv
  cases hi : tab[i]? with
  | none => rw [hi] at hv; cases hv
  | some n =>
    rw [hi] at hv; cases hv
    have hlt : i < tab.length := by
      rcases Nat.lt_or_ge i tab.length with h' | h'
      · exact h'
      · rw [List.getElem?_eq_none h'] at hi; cases hi
    have := (table h).cell gTab i hlt
    rw [List.getElem?_eq_getElem hlt] at hi
    simpa [List.getD, List.getElem?_eq_getElem hlt, hi] using this
theorem tabsOk : ∀ t ∈ tabs, t.2.all (fun v => AE.plain 8 v && AE.oneCell v) = true := by
  intro t ht
  obtain rfl : t = (0, tab.map (.int .u16)) := by simpa [tabs] using ht
  decide

/-- THE EVALUATION, by the fast form of the evaluator. -/
theorem runF (x0 : Int) (x1 : Int): AE.isV AE.isTrue (AE.F.runC Tryd.prog AE.noX 10000 100 3 [Value.int .i64 x0, Value.int .u8 x1] (AE.St0 tabs)) = true := by kernel_rfl
theorem run (x0 : Int) (x1 : Int): AE.isV AE.isTrue (AE.callE Tryd.prog AE.noX (AE.drawE Tryd.prog) 10000 100 3 [Value.int .i64 x0, Value.int .u8 x1] (AE.St0 tabs)) = true := by
  rw [← AE.F.runC_eq]; exact runF x0 x1

set_option maxRecDepth 100000 in
theorem contract (H : Type) (enc : TypeId × Value → H) (W : World) (base : Nat) (args : Array Value) (ds gs : List (DataW H)) (before : List MemPlace)
    (hval : ∀ (j : Nat) t v, Tryd.f3.params[j]? = some t → args[j]? = some v → Value.okWide Tryd.prog W .any base t v)
    (hW : DataW.Whole enc Tryd.prog Tryd.f3.params.toList Rows.fdcNilSpec.vars false W args.toList ds gs before) (hL : laidMetH Tryd.prog Rows.fdcNilRow.laid W) :
    Calls Tryd.prog 3 args W fun e W' => ∃ v, e = .returned v ∧ Rows.fdcNilSpec.post enc Tryd.prog Tryd.f3 false true false false W args v W' := by
  have hW' := hW
  obtain ⟨p, q, hA0, hV, rfl, hfz, hnd⟩ := hW
  have hA : DataW.TrodAll enc Tryd.prog W 0 (fun _ => true) true Tryd.f3.params.toList args.toList ds p := hA0
  rw [Tryd.params3] at hA hval
  obtain ⟨v0, vs0, d0, ds0, p0, q0, hargs, rfl, rfl, h0, r0⟩ := trodAll_cons hA
  obtain ⟨v1, vs1, d1, ds1, p1, q1, rfl, rfl, rfl, h1, r1⟩ := trodAll_cons r0
  obtain ⟨rfl, rfl, rfl⟩ := trodAll_nil r1
  obtain rfl : args = #[v0, v1] := Array.ext' hargs
  obtain ⟨rfl, rfl⟩ := trodVars_none hV
  obtain ⟨x0, rfl, rfl, rfl, wx0⟩ := open_int Tryd.underlying3 (hval 0 3 v0 rfl rfl) h0
  obtain ⟨x1, rfl, rfl, rfl, wx1⟩ := open_int Tryd.underlying5 (hval 1 5 v1 rfl rfl) h1
  clear hA0
  simp only [List.append_nil] at hW'
  refine (AE.closed (args := [Value.int .i64 x0, Value.int .u8 x1]) (AE.noX_ok _) (AE.drawE_ok (by kernel_rfl)) rfl tabsOk (run x0 x1) W (holds0 hL)).mono fun e W' ⟨he, hb⟩ => ?_
  subst he
  exact ⟨_, rfl, _, _, _, [], [], [], hW', trodAll_cons_mk (shut_bool Tryd.underlying4 _) trodAll_mk0, (trodAll_cons_mk (shut_int Tryd.underlying3 wx0) (trodAll_cons_mk (shut_int Tryd.underlying5 wx1) trodAll_mk0)), rfl, hb.frame _, fun h => by cases h⟩

noncomputable def laidWorld (os : Os) : World :=
  { World.holding Tryd.prog os ⟨#[], #[], []⟩ with heap := (World.holding Tryd.prog os ⟨#[], #[], []⟩).heap.modify 0 fun
      | .cells _ t frozen => .cells (tab.map (.int .u16)).toArray t frozen
      | o => o }
theorem laid_met (os : Os) : laidMet Tryd.prog Rows.fdcNilRow.laid ((laidWorld os).forCall (fun _ _ => 0) ⟨#[], #[.int .i64 0, .int .u8 0], []⟩).memory :=
  laidMet_of_run' 8 (by kernel_rfl) (by kernel_rfl)
theorem reads (os : Os) {H : Type} (enc : TypeId × Value → H) : ∃ places, DataW.whole enc Tryd.prog ((laidWorld os).forCall (fun _ _ => 0) ⟨#[], #[.int .i64 0, .int .u8 0], []⟩).memory Tryd.f3.params.toList Rows.fdcNilSpec.vars false (#[.int .i64 0, .int .u8 0] : Array Value).toList 8 = some ([.lit (.int .i64 0), .lit (.int .u8 0)], [], places) :=
  ⟨[], by kernel_rfl⟩

set_option maxRecDepth 100000 in
theorem lifted (os : Os) (started : os.Started) (H : Type) (enc : TypeId × Value → H) (F : Stop.Interp) :
    ReturnsInHanded {} Tryd.checked os 3 .any ((OpenSpec.ofChange Rows.fdcNilSpec).preRow enc Tryd.prog Tryd.f3 Rows.fdcNilRow.domain false Rows.fdcNilRow.laid) (((OpenSpec.ofChange Rows.fdcNilSpec).at F).post enc Tryd.prog Tryd.f3 false true false false) := by
  obtain ⟨places, hx⟩ := reads os enc
  refine returnsInHanded_of_row (C := Tryd.checked) (s := OpenSpec.ofChange Rows.fdcNilSpec) own started (by kernel_rfl) Tryd.func3
    (witness_row_at (enc := enc) (C := Tryd.checked) false (laidWorld os) #[.int .i64 0, .int .u8 0] rfl (by kernel_rfl) (by kernel_rfl) (by kernel_rfl)
      (OpenSpec.preRow_of_cond 8 hx (by kernel_rfl) (fun k hk => by cases hk) (by kernel_rfl) (laid_met os))) ?_
  intro W base args ds gs before hval hW _ _ _ hL _ _
  exact contract H enc W base args ds gs before hval hW hL

theorem said : Rows.FdcNilSaid :=
  OpenClaim.holds_of_cond 3 Tryd.f3 rfl rfl rfl rfl rfl rfl rfl ⟨rfl, rfl, rfl, rfl, rfl⟩ rfl rfl rfl rfl rfl (by kernel_rfl) Tryd.func3 (by kernel_rfl)
    (of_decide_eq_true (by kernel_rfl)) (by unfold Func.isWrapper; first | (rw [if_pos (by decide +kernel)]; kernel_rfl) | (rw [if_neg (by decide +kernel)]; exact ⟨rfl, rfl⟩))
    (fun os started H enc _ F => by rw [OpenClaim.pre_eq_preRow]; exact lifted os started H enc F)

theorem plain (f : FuncId) (fn : Func) (hf : Tryd.pinned.checked.prog.funcNamed "pendulum/pendulumlaw22.FdcNil" = some f) (hfn : Tryd.pinned.checked.prog.funcs[f]? = some fn) :
    false = Tryd.pinned.checked.prog.looks [] ∧ ∀ (j : Nat) t, fn.params[j]? = some t → Tryd.pinned.checked.prog.wantsStandIn t = false := by
  obtain rfl : f = 3 := Option.some.inj ((show Tryd.prog.funcNamed "pendulum/pendulumlaw22.FdcNil" = some 3 by kernel_rfl).symm.trans hf) |>.symm
  obtain rfl : fn = Tryd.f3 := (Option.some.inj (Tryd.func3.symm.trans hfn)).symm
  refine ⟨by kernel_rfl, fun j t ht => ?_⟩
  rw [Tryd.params3] at ht
  have hm := Array.mem_of_getElem? ht
  simp only [List.mem_toArray, List.mem_cons, List.not_mem_nil, or_false] at hm
  rcases hm with rfl | rfl
  · exact (show Tryd.prog.wantsStandIn 3 = false by kernel_rfl)
  · exact (show Tryd.prog.wantsStandIn 5 = false by kernel_rfl)

theorem card : Rows.FdcNilCardSaid :=
  Claim7.holds_tied_plain_at .later [] _ _ _ _ said (fun _ h => by cases h) (by kernel_rfl) (fun _ h => by cases h) fdcNil_row_tie rfl ⟨rfl, rfl⟩ (by kernel_rfl) rfl plain (by kernel_rfl)
#print axioms card
end Go.Proofs.YtkcmgcneecgpgaaDoor.fdcNil
