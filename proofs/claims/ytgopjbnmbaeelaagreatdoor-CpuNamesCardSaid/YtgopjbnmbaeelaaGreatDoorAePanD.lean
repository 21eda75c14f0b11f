import Derived.Test.YtgopjbnmbaeelaaGreatDoorAeFTop
import Derived.Test.YtgopjbnmbaeelaaGreatDoorAeDrawD
set_option linter.unusedVariables false
set_option linter.unusedSimpArgs false
/-! A region that draws its order, and whose last operation waits for all the others: that one is taken by itself. -/
namespace Go.AE
open Go Go.RowKit
variable {P : Program}

def idle (o : Oper) : Oper := { o with op := .move (.const (.bool true)), dst := none }
def dummyL (ops : Array Oper) (o : Oper) : Array Oper := ops.setIfInBounds (ops.size - 1) (idle o)
def isCallF (o : Op) : Bool := match o with
  | .call { callee := .value _, .. } => true
  | _ => false
def noGuard (L : Nat) (o : Oper) : Bool := match o.guard with
  | some g => !Nat.beq g.1 L
  | none => true
def lastOk (ops : Array Oper) (o : Oper) : Bool := o.guard.isNone && isCallF o.op && Nat.blt 0 ops.size && ops.toList.all (noGuard (ops.size - 1)) && (List.range (ops.size - 1)).all (anc (dummyL ops o) (ops.size - 1))

section
variable {ops : Array Oper} {o : Oper}

theorem dummy_ne {i : Nat} (h : i ≠ ops.size - 1) : (dummyL ops o)[i]? = ops[i]? := by
  unfold dummyL; rw [Array.getElem?_setIfInBounds_ne (fun e => h e.symm)]
theorem dummy_at (h : 0 < ops.size) : (dummyL ops o)[ops.size - 1]? = some (idle o) := by
  unfold dummyL; rw [Array.getElem?_setIfInBounds_self_of_lt (by omega)]
theorem dummy_size : (dummyL ops o).size = ops.size := by unfold dummyL; simp

theorem dummy_ready (h0 : 0 < ops.size) (hL : ops[ops.size - 1]? = some o) (listed : Array Bool) (j : Nat) : j ∈ Region.ready .any (dummyL ops o) listed ↔ j ∈ Region.ready .any ops listed := by
  rw [mem_ready, mem_ready]
  by_cases e : j = ops.size - 1
  · subst e
    rw [dummy_at h0, hL]
    simp [idle]
  · rw [dummy_ne e]

theorem upon_monoQ {o : Oper} {a : Act} {w : World} {K : Act → World → Prop} {Q Q' : Exit → Act → World → Prop} (h1 : ∀ c a w, Q' (.panic c) a w → Q (.panic c) a w) (h2 : LetsOut Q' → LetsOut Q)
    (hh : o.wp P a w K Q') : o.wp P a w K Q := by
  unfold Oper.wp at *
  generalize (execOp a.eval o).run P w = r at *
  cases r with
  | ok n w' =>
    cases n <;> simp only [Oper.upon] at hh ⊢ <;>
      first
        | exact hh
        | exact Calls.mono hh (fun e w'' he => by cases e <;> first | exact he | exact h1 _ _ _ he | exact h2 he)
  | halt x w' => cases x <;> simp only [Oper.upon] at hh ⊢ <;> first | exact hh | exact h1 _ _ _ hh

/-- What is to hold behind all the others. -/
def behind (P : Program) (o : Oper) (Q : Exit → Act → World → Prop) : Exit → Act → World → Prop
  | .normal, a, w => o.wp P a w (fun a w => Q .normal a w) Q
  | e, a, w => Q e a w

theorem idle_wp {a : Act} {w : World} {K : Act → World → Prop} {Q : Exit → Act → World → Prop} (h : (idle o).wp P a w K Q) : K a w := by
  unfold Oper.wp at h
  have : (execOp a.eval (idle o)).run P w = .ok (.value (.bool true)) w := rfl
  rw [this, Oper.upon_value] at h
  exact h
theorem idle_asks {a : Act} {w : World} : ¬ (idle o).asks P a w := by
  intro h
  have := h.1
  have e : ((execOp a.eval (idle o)).runT P w #[]).2 = #[] := rfl
  rw [e] at this
  simp at this

theorem wanted_dummy {L : Nat} {o' : Oper} (hg : noGuard L o' = true) {ops ops' : Array Oper} (h : ∀ i, i ≠ L → ops'[i]? = ops[i]?) (t : Array Value) : Region.wanted o' (yielded ops' t) = Region.wanted o' (yielded ops t) := by
  unfold Region.wanted
  unfold noGuard at hg
  cases hgu : o'.guard with
  | none => rfl
  | some g =>
    obtain ⟨j, b⟩ := g
    rw [hgu] at hg
    have hj : j ≠ L := by
      intro e; subst e
      simp at hg
    simp only
    unfold yielded
    rw [h j hj]

theorem ready_none {P : Program} {ops : Array Oper} {listed : Array Bool} (hsz : listed.size = ops.size) (hall : ∀ i, i < ops.size → listed.getD i false = true) : Region.ready .any ops listed = [] := by
  rw [List.eq_nil_iff_forall_not_mem]
  intro i hi
  obtain ⟨h1, o, ho, _⟩ := mem_ready.1 hi
  have hi2 : i < ops.size := by
    rcases Nat.lt_or_ge i ops.size with h' | h'
    · exact h'
    · rw [Array.getElem?_eq_none h'] at ho; cases ho
  have := hall i hi2
  have hls : i < listed.size := by rw [hsz]; exact hi2
  simp [Array.getD, hls] at h1 this
  rw [h1] at this; cases this

theorem wpAny_all {Q : Exit → Act → World → Prop} {fuel : Nat} {listed : Array Bool} {a : Act} {w : World} (hr : Region.ready .any ops listed = []) (h : wpAny P .any ops Q fuel listed a w) : Q .normal a w := by
  cases fuel with
  | zero => exact h.2
  | succ n => exact h.1 hr
theorem wpAny_mk {Q : Exit → Act → World → Prop} {fuel : Nat} {listed : Array Bool} {a : Act} {w : World} (hr : Region.ready .any ops listed = []) (h : Q .normal a w) : wpAny P .any ops Q fuel listed a w := by
  cases fuel with
  | zero => exact ⟨hr, h⟩
  | succ n => exact ⟨fun _ => h, fun i hi => by rw [hr] at hi; cases hi⟩

theorem wpAny_last (h0 : 0 < ops.size) (hL : ops[ops.size - 1]? = some o) (hgo : o.guard = none) (hgs : ∀ o' ∈ ops.toList, noGuard (ops.size - 1) o' = true) (hd : DOk P (dummyL ops o)) (hanc : ∀ i, i < ops.size - 1 → anc (dummyL ops o) (ops.size - 1) i = true)
    {Q : Exit → Act → World → Prop} :
    ∀ (fuel : Nat) (listed : Array Bool) (a : Act) (w : World), listed.size = ops.size → listed.getD (ops.size - 1) false = false → (∀ i f, listed.getD i false = true → anc (dummyL ops o) i f = true → listed.getD f false = true) →
      wpAny P .any (dummyL ops o) (behind P o Q) fuel listed a w → wpAny P .any ops Q fuel listed a w
  | 0, listed, a, w, hsz, hl, hcl, h => by
    have := ready_of hd (by rw [hsz, dummy_size]) h.1 (ops.size - 1) (by rw [dummy_size]; omega)
    rw [hl] at this; cases this
  | fuel + 1, listed, a, w, hsz, hl, hcl, h => by
    refine ⟨fun hr => ?_, fun i hi => ?_⟩
    · have hr' : Region.ready .any (dummyL ops o) listed = [] := by
        rw [List.eq_nil_iff_forall_not_mem]
        intro j hj
        have := (dummy_ready h0 hL listed j).1 hj
        rw [hr] at this; cases this
      have := ready_of hd (by rw [hsz, dummy_size]) hr' (ops.size - 1) (by rw [dummy_size]; omega)
      rw [hl] at this; cases this
    · have hi' := (dummy_ready h0 hL listed i).2 hi
      have hstep := h.2 i hi'
      obtain ⟨hun, oi, hoi, hall⟩ := mem_ready.1 hi'
      have hi2 : i < ops.size := by
        rcases Nat.lt_or_ge i ops.size with h' | h'
        · exact h'
        · rw [Array.getElem?_eq_none (by rw [dummy_size]; exact h')] at hoi; cases hoi
      have hanc_i : ∀ f, anc (dummyL ops o) i f = true → listed.getD f false = true := fun f hf => by
        obtain ⟨e, he, hb, hx⟩ := (anc_spec hoi (hd.back _ _ hoi) f).1 hf
        have hle := hall e he hb
        rcases hx with rfl | hx
        · exact hle
        · exact hcl _ _ hle hx
      by_cases e : i = ops.size - 1
      · subst e
        -- the last one
        have hall2 : ∀ k, k < ops.size → (listed.setIfInBounds (ops.size - 1) true).getD k false = true := fun k hk => by
          by_cases ek : k = ops.size - 1
          · subst ek; exact getD_set_self (by rw [hsz]; exact hk) _
          · rw [getD_set_ne false (fun x => ek x.symm)]
            exact hanc_i k (hanc k (by omega))
        have hr1 : Region.ready .any (dummyL ops o) (listed.setIfInBounds (ops.size - 1) true) = [] := ready_none (P := P) (by simp [hsz, dummy_size]) (by rw [dummy_size]; exact hall2)
        have hr2 : Region.ready .any ops (listed.setIfInBounds (ops.size - 1) true) = [] := ready_none (P := P) (by simp [hsz]) hall2
        unfold wpOp at hstep ⊢
        rw [dummy_at h0] at hstep
        rw [hL]
        have hw1 : ∀ y, Region.wanted (idle o) y = true := fun y => by unfold Region.wanted idle; rw [hgo]
        have hw2 : ∀ y, Region.wanted o y = true := fun y => by unfold Region.wanted; rw [hgo]
        simp only [hw1, if_true] at hstep
        simp only [hw2, if_true]
        rcases hstep with hstep | ⟨hstep, _⟩
        · have := wpAny_all hr1 (idle_wp hstep)
          refine .inl (Oper.wp_mono (fun a w hq => wpAny_mk hr2 hq) this)
        · exact absurd hstep idle_asks
      · rw [dummy_ne e] at hoi
        unfold wpOp at hstep ⊢
        rw [dummy_ne e] at hstep
        rw [hoi] at hstep ⊢
        simp only at hstep ⊢
        have hwd := wanted_dummy (hgs oi (Array.mem_toList_iff.2 (Array.mem_of_getElem? hoi))) (fun i hi => dummy_ne (ops := ops) (o := o) hi) a.tmps
        rw [hwd] at hstep
        have rec' : ∀ a' w', wpAny P .any (dummyL ops o) (behind P o Q) fuel (listed.setIfInBounds i true) a' w' → wpAny P .any ops Q fuel (listed.setIfInBounds i true) a' w' := fun a' w' hh =>
          wpAny_last h0 hL hgo hgs hd hanc fuel _ a' w' (by simp [hsz]) (by rw [getD_set_ne false e]; exact hl) (fun j f hj hf => by
            by_cases ej : j = i
            · subst ej
              have hfi := hanc_i f hf
              by_cases ef : f = j
              · subst ef; exact getD_set_self (by rw [hsz]; exact hi2) _
              · rw [getD_set_ne false (fun x => ef x.symm)]; exact hfi
            · rw [getD_set_ne false (fun x => ej x.symm)] at hj
              have := hcl j f hj hf
              by_cases ef : f = i
              · subst ef; exact getD_set_self (by rw [hsz]; exact hi2) _
              · rw [getD_set_ne false (fun x => ef x.symm)]; exact this) hh
        split
        · rename_i hw
          rw [if_pos hw] at hstep
          rcases hstep with hstep | ⟨h1, h2⟩
          · exact .inl (Oper.wp_mono rec' (upon_monoQ (fun c a w hc => hc) (fun ⟨a, w, hq⟩ => ⟨a, w, hq⟩) hstep))
          · exact .inr ⟨h1, let ⟨a, w, hq⟩ := h2; ⟨a, w, hq⟩⟩
        · rename_i hw
          rw [if_neg hw] at hstep
          exact rec' _ _ hstep
end

theorem drawL_wp {cf : CallF} (hcf : CallOk P cf) (hm : P.follows .mixedOrders = true) {ops : Array Oper} {o : Oper} (hL : ops[ops.size - 1]? = some o) (hok : lastOk ops o = true) {f0 f' : FS} (h : drawE P cf (dummyL ops o) f0 = some f')
    {ds : List Deferred} {w0 : KW} {m : Map} {a : Act} {w : World} {id : Nat} {Q : Exit → Act → World → Prop} (hR : FRel ds w0 m f0 a w)
    (hQ : ∀ m' a' w', m.le m' → FRel ds w0 m' f' a' w' → o.wp P a' w' (fun a w => Q .normal a w) Q) : (Code.region id ops true).wp P Q a w := by
  unfold lastOk at hok
  simp only [Bool.and_eq_true] at hok
  obtain ⟨⟨⟨⟨k1, k2⟩, k3⟩, k4⟩, k5⟩ := hok
  have h0 : 0 < ops.size := by rwa [Nat.blt_eq] at k3
  have hgo : o.guard = none := by simpa using k1
  have hd : DOk P (dummyL ops o) := by
    obtain ⟨_, hdk, _⟩ := Option.bind_eq_some_iff.1 h
    exact dOk_spec (ck_some hdk)
  have := drawE_any hcf h hR (Q := behind P o Q) hQ
  rw [dummy_size] at this
  refine wp_region_any hm (wpAny_last h0 hL hgo (fun o' ho => List.all_eq_true.1 k4 o' ho) hd (fun i hi => List.all_eq_true.1 k5 i (List.mem_range.2 hi)) ops.size _ a _ (by simp) (by simp [Array.getD]) (fun i f hi => by simp [Array.getD] at hi) this)
end Go.AE
