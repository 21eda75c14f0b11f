/-
  NOTHING BUT WHAT THE DOCUMENT WRITES IS READ: the law OctetOnly answers true, for every row of bytes, from whatever memory in which the program's table lies as its text lays it.
  BY A WALK: the texts ..Ae* define an evaluator of the program's code over states that stand for worlds, and prove that what it finds is what the model does, whatever the tape answers; the texts ..Oc* walk the law's functions with it.
-/
import Derived.Test.YtkbclhkcceennaaDoorCards
import Derived.Test.YtkbclhkcceennaaDoorTie
import Derived.WalkKit
import Derived.ProofKit
import Derived.OpenShut
import Derived.Deep.DeepHandedRow
import Derived.Lib.LaidTab
import Derived.Test.YtkbclhkcceennaaDoorPoU
import Derived.Test.YtkbclhkcceennaaDoorAeE
import Derived.Test.YtkbclhkcceennaaDoorPeZ
set_option linter.unusedVariables false
namespace Go.Proofs.YtkbclhkcceennaaDoor.octetOnly
open Go.ChangeShapes Go.WideShapes Go.ChangeAt Go.RowKit

theorem own : ownKnob Tryd.prog.godebug = none := by kernel_rfl
theorem laidOut : laidOutB Tryd.prog = true := by kernel_rfl
theorem g0 : Tryd.prog.globalNamed "pendulum/octet.table" = some 0 := by kernel_rfl
theorem gType0 : (Tryd.prog.globals[0]?).map (·.type) = some 51 := by kernel_rfl
theorem cells0 : Tryd.prog.cellsOf 51 = 16 := by kernel_rfl
theorem cellsE0 : Tryd.prog.cellsOf 23 = 1 := by kernel_rfl
def tab0 : List Int := [0, 4129, 8258, 12387, 16516, 20645, 24774, 28903, 33032, 37161, 41290, 45419, 49548, 53677, 57806, 61935]
theorem table0 {W : World} (h : laidMetH Tryd.prog Rows.octetOnlyRow.laid W) : Lib.TabIs Tryd.prog W "pendulum/octet.table" .u16 tab0 :=
  Lib.tabIs_of_head g0 gType0 Tryd.underlying51 Tryd.underlying23 cellsE0 cells0 (show laidMet Tryd.prog Rows.octetOnlyRow.laid W from h)
def tabs : AE.Tabs := [(0, tab0.map (.int .u16))]
theorem holds0 {W : World} (h : laidMetH Tryd.prog Rows.octetOnlyRow.laid W) : AE.Holds0 tabs W := by
  intro t ht
  simp only [tabs, List.mem_cons, List.not_mem_nil, or_false] at ht
  rcases ht with rfl
  · exact AE.tab_holds (table0 h) g0 (by decide)
theorem tabsOk : ∀ t ∈ tabs, t.2.all (fun v => AE.plain 8 v && AE.oneCell v) = true := by
  intro t ht
  simp only [tabs, List.mem_cons, List.not_mem_nil, or_false] at ht
  rcases ht with rfl
  · exact AE.tab_plain _ _

theorem u8T0 : AE.U8T Tryd.prog 22 5 := ⟨Tryd.underlying22, Tryd.underlying5, by kernel_rfl, by kernel_rfl⟩
theorem tabsEq : po.tabs = tabs := by
  have e : tab0 = PE.octT.map fun (n : Nat) => (n : Int) := by decide
  unfold po.tabs tabs
  rw [e, List.map_map]
  rfl
theorem relS {W : World} (h : laidMetH Tryd.prog Rows.octetOnlyRow.laid W) : PE.RelP po.tabs (fun _ => none) ⟨[], 0⟩ (AE.absS W) := by
  refine PE.rel_entry (by rw [tabsEq]; exact holds0 h) (by rw [tabsEq]; exact tabsOk) (fun t ht v hv => ?_) _
  rw [po.tabsIs ht, List.mem_map] at hv
  obtain ⟨n, _, rfl⟩ := hv
  rfl

set_option maxRecDepth 100000 in
theorem contract (H : Type) (enc : TypeId × Value → H) (W : World) (base : Nat) (args : Array Value) (ds gs : List (DataW H)) (before : List MemPlace)
    (hval : ∀ (j : Nat) t v, Tryd.f7.params[j]? = some t → args[j]? = some v → Value.okWide Tryd.prog W .any base t v)
    (hW : DataW.Whole enc Tryd.prog Tryd.f7.params.toList Rows.octetOnlySpec.vars false W args.toList ds gs before) (hL : laidMetH Tryd.prog Rows.octetOnlyRow.laid W) :
    Calls Tryd.prog 7 args W fun e W' => ∃ v, e = .returned v ∧ Rows.octetOnlySpec.post enc Tryd.prog Tryd.f7 false true false false W args v W' := by
  have hW' := hW
  obtain ⟨p, q, hA0, hV, rfl, hfz, hnd⟩ := hW
  have hA : DataW.TrodAll enc Tryd.prog W 0 (fun _ => true) true Tryd.f7.params.toList args.toList ds p := hA0
  rw [Tryd.params7] at hA hval
  obtain ⟨v0, vs0, d0, ds0, p0, q0, hargs, rfl, rfl, h0, r0⟩ := trodAll_cons hA
  obtain ⟨rfl, rfl, rfl⟩ := trodAll_nil r0
  obtain rfl : args = #[v0] := Array.ext' hargs
  obtain ⟨rfl, rfl⟩ := trodVars_none hV
  obtain ⟨u0, l0, hb0, hc0, hv0⟩ := AE.open_bytes u8T0 (show Tryd.prog.cellsOf 5 = 1 by kernel_rfl) (hval 0 22 v0 rfl rfl) h0
  clear hA0
  simp only [List.append_nil] at hW'

  refine (AE.enter (PE.pe_call (po.only_ok l0) (relS hL) (PE.VPs.cons (PE.bytes_vp hb0 hc0) PE.VPs.nil)) (AE.VRs.cons hv0 (AE.VRs.nil _))).mono fun e W' ⟨he, hb⟩ => ?_
  subst he
  exact ⟨_, rfl, _, _, _, [], _, [], hW', trodAll_cons_mk (shut_bool Tryd.underlying4 _) trodAll_mk0, (trodAll_cons_mk (Below.trod laidOut (show Tryd.prog.readableRec 22 = true by kernel_rfl) (show 22 < Tryd.prog.types.size from of_decide_eq_true (by kernel_rfl)) h0 hb (fun x hx => let ⟨n, hn⟩ := h0; DataW.trod_lt n _ _ _ hn x hx)) trodAll_mk0), rfl, hb.frame _, fun h => by cases h⟩

noncomputable def laidWorld (os : Os) : World :=
  { World.holding Tryd.prog os ⟨#[], #[], []⟩ with heap := ((World.holding Tryd.prog os ⟨#[], #[], []⟩).heap.modify 0 fun | .cells _ t frozen => .cells (tab0.map (.int .u16)).toArray t frozen | o => o) }
theorem laid_met (os : Os) : laidMet Tryd.prog Rows.octetOnlyRow.laid ((laidWorld os).forCall (fun _ _ => 0) ⟨#[], #[.slice none 0 0], []⟩).memory :=
  laidMet_of_run' 8 (by kernel_rfl) (by kernel_rfl)
theorem reads (os : Os) {H : Type} (enc : TypeId × Value → H) : ∃ places, DataW.whole enc Tryd.prog ((laidWorld os).forCall (fun _ _ => 0) ⟨#[], #[.slice none 0 0], []⟩).memory Tryd.f7.params.toList Rows.octetOnlySpec.vars false (#[.slice none 0 0] : Array Value).toList 8 = some ([.nil], [], places) :=
  ⟨[], by kernel_rfl⟩

set_option maxRecDepth 100000 in
theorem lifted (os : Os) (started : os.Started) (H : Type) (enc : TypeId × Value → H) (F : Stop.Interp) :
    ReturnsInHanded {} Tryd.checked os 7 .any ((OpenSpec.ofChange Rows.octetOnlySpec).preRow enc Tryd.prog Tryd.f7 Rows.octetOnlyRow.domain false Rows.octetOnlyRow.laid) (((OpenSpec.ofChange Rows.octetOnlySpec).at F).post enc Tryd.prog Tryd.f7 false true false false) := by
  obtain ⟨places, hx⟩ := reads os enc
  refine returnsInHanded_of_row (C := Tryd.checked) (s := OpenSpec.ofChange Rows.octetOnlySpec) own started (by kernel_rfl) Tryd.func7
    (witness_row_at (enc := enc) (C := Tryd.checked) false (laidWorld os) #[.slice none 0 0] rfl (by kernel_rfl) (by kernel_rfl) (by kernel_rfl)
      (OpenSpec.preRow_of_cond 8 hx (by kernel_rfl) (fun k hk => by cases hk) (by kernel_rfl) (laid_met os))) ?_
  intro W base args ds gs before hval hW _ _ _ hL _ _
  exact contract H enc W base args ds gs before hval hW hL

theorem said : Rows.OctetOnlySaid :=
  OpenClaim.holds_of_cond 7 Tryd.f7 rfl rfl rfl rfl rfl rfl rfl ⟨rfl, rfl, rfl, rfl, rfl⟩ rfl rfl rfl rfl rfl (by kernel_rfl) Tryd.func7 (by kernel_rfl)
    (of_decide_eq_true (by kernel_rfl)) (by unfold Func.isWrapper; first | (rw [if_pos (by decide +kernel)]; kernel_rfl) | (rw [if_neg (by decide +kernel)]; exact ⟨rfl, rfl⟩))
    (fun os started H enc _ F => by rw [OpenClaim.pre_eq_preRow]; exact lifted os started H enc F)

theorem plain (f : FuncId) (fn : Func) (hf : Tryd.pinned.checked.prog.funcNamed "pendulum/pendulumlaw01.OctetOnly" = some f) (hfn : Tryd.pinned.checked.prog.funcs[f]? = some fn) :
    false = Tryd.pinned.checked.prog.looks [] ∧ ∀ (j : Nat) t, fn.params[j]? = some t → Tryd.pinned.checked.prog.wantsStandIn t = false := by
  obtain rfl : f = 7 := Option.some.inj ((show Tryd.prog.funcNamed "pendulum/pendulumlaw01.OctetOnly" = some 7 by kernel_rfl).symm.trans hf) |>.symm
  obtain rfl : fn = Tryd.f7 := (Option.some.inj (Tryd.func7.symm.trans hfn)).symm
  refine ⟨by kernel_rfl, fun j t ht => ?_⟩
  rw [Tryd.params7] at ht
  have hm := Array.mem_of_getElem? ht
  simp only [List.mem_toArray, List.mem_cons, List.not_mem_nil, or_false] at hm
  rcases hm with rfl
  · exact (show Tryd.prog.wantsStandIn 22 = false by kernel_rfl)

theorem card : Rows.OctetOnlyCardSaid :=
  Claim7.holds_tied_plain_at .later [] _ _ _ _ said (fun _ h => by cases h) (by kernel_rfl) (fun _ h => by cases h) octetOnly_row_tie rfl ⟨rfl, rfl⟩ (by kernel_rfl) rfl plain (by kernel_rfl)
#print axioms card
end Go.Proofs.YtkbclhkcceennaaDoor.octetOnly
