import Derived.Test.YtkbclhkcceennaaDoorAeCode
set_option linter.unusedSimpArgs false
set_option linter.unusedVariables false
namespace Go.AE
open Go Go.RowKit

/-- The tables that lie there when the call begins: a variable's number, its cells. -/
abbrev Tabs := List (Nat × List Value)
def tabBlk (vs : List Value) : Blk := { rowBlk 0 vs with ro := true }
def tabH : Tabs → PT Blk
  | [] => .leaf
  | t :: ts => (tabH ts).set (2 * t.1 + 1) (some (tabBlk t.2))
def St0 (tabs : Tabs) : St := { h := tabH tabs, hm := .leaf, nx := 1, st := 1 }

theorem tabH_get : ∀ (tabs : Tabs) (id : Nat) (b : Blk), (tabH tabs).get id = some b → ∃ t ∈ tabs, id = 2 * t.1 + 1 ∧ b = tabBlk t.2
  | [], id, b, h => by simp [tabH, PT.get_leaf] at h
  | t :: ts, id, b, h => by
    simp only [tabH, PT.get_set] at h
    by_cases e : id = 2 * t.1 + 1
    · rw [if_pos e] at h; cases h
      exact ⟨t, by simp, e, rfl⟩
    · rw [if_neg e] at h
      obtain ⟨u, h1, h2⟩ := tabH_get ts id b h
      exact ⟨u, by simp [h1], h2⟩

/-- A world that holds the tables. -/
def Holds0 (tabs : Tabs) (W : World) : Prop := ∀ t ∈ tabs, t.2 ≠ [] ∧ ∀ (i : Nat) v, t.2[i]? = some v → W.cell? ⟨t.1, i, none⟩ = some v

def mapOf (W : World) : Map := fun id => if id % 2 = 1 then some ⟨id / 2, 0, true, (match W.heap[id / 2]? with | some (.cells c _ _) => c.size | _ => 0), 0⟩ else none

/-- The world at a call's beginning: nothing that lies there may be written. -/
def kw0 (W : World) : KW := ⟨W, (· < W.heap.size), (· < W.heap.size), fun _ => False, fun _ h => h, fun _ h => h⟩

theorem rel0 {tabs : Tabs} {W : World} (h : Holds0 tabs W) (hp : ∀ t ∈ tabs, t.2.all (fun v => plain 8 v && oneCell v) = true) : Rel (kw0 W) (mapOf W) (St0 tabs) W := by
  refine ⟨⟨Keeps.refl _, (fun _ h => h.elim), fun id b hb => ?_, fun i j bi bj li lj hi hj hli hlj hbb _ => ?_, fun id x hx => by simp [St0, PT.get_leaf] at hx, fun i j bi bj li lj hi => by simp [St0, PT.get_leaf] at hi⟩, Nat.one_pos, fun k => ⟨by simp [mapOf], fun h => h⟩⟩
  · obtain ⟨t, ht, rfl, rfl⟩ := tabH_get tabs id b hb
    obtain ⟨hne, hc⟩ := h t ht
    have hpt := hp t ht
    have e1 : (2 * t.1 + 1) % 2 = 1 := by omega
    have e2 : (2 * t.1 + 1) / 2 = t.1 := by omega
    have hcell : ∃ cs ty fr, W.heap[t.1]? = some (.cells cs ty fr) ∧ ∀ (i : Nat) v, t.2[i]? = some v → cs[i]? = some v := by
      have h0 : ∃ v, t.2[0]? = some v := by
        cases hh : t.2 with
        | nil => exact absurd hh hne
        | cons v vs => exact ⟨v, rfl⟩
      obtain ⟨v0, hv0⟩ := h0
      have := hc 0 v0 hv0
      unfold World.cell? at this
      cases hw : W.heap[t.1]? with
      | none => simp [hw] at this
      | some o =>
        cases o with
        | cells cs ty fr => exact ⟨cs, ty, fr, rfl, fun i v hv => by have := hc i v hv; simpa [World.cell?, hw] using this⟩
        | _ => simp [hw] at this
    obtain ⟨cs, ty, fr, hw, hcs⟩ := hcell
    refine ⟨⟨t.1, 0, true, cs.size, 0⟩, by simp [mapOf, e1, e2, hw], ⟨rfl, (fun hx => by cases hx), ⟨cs, fr, ty, (fun hx => by cases hx), hw, rfl, ?_, fun i v hv => ?_, (fun hx => by cases hx)⟩, (fun hx => by cases hx), fun _ => heap_lt hw⟩⟩
    · show 0 + t.2.length ≤ cs.size
      rcases Nat.lt_or_ge cs.size t.2.length with h' | h'
      · exfalso
        have := hcs cs.size _ (List.getElem?_eq_getElem h')
        simp at this
      · omega
    · have hv : t.2[i]? = some v := rowBlk_cell 0 t.2 i hv
      have := all_get hpt hv
      simp only [Bool.and_eq_true] at this
      exact ⟨v, by rw [Nat.zero_add]; exact hcs i v hv, plain_VR _ 8 v this.1, this.2⟩
  · obtain ⟨t, _, rfl, _⟩ := tabH_get tabs i bi hi
    obtain ⟨u, _, rfl, _⟩ := tabH_get tabs j bj hj
    simp only [mapOf, show (2 * t.1 + 1) % 2 = 1 from by omega, show (2 * u.1 + 1) % 2 = 1 from by omega, if_true, Option.some.injEq] at hli hlj
    subst hli; subst hlj
    simp only at hbb
    omega

theorem glob0 (W : World) : Glob (mapOf W) := fun g => ⟨_, by simp only [mapOf, show (2 * g + 1) % 2 = 1 from by omega, if_true]; rfl, by simp only; omega, rfl⟩

def isV (v : Value → Bool) : Option (Value × St) → Bool
  | some (u, _) => v u
  | none => false
def isTrue : Value → Bool
  | .bool b => b
  | _ => false

/-- A call whose every argument is plain: what the evaluator finds, the program gives, from every world that holds the tables. -/
theorem closed {P : Program} {X : ExtF} {dr : CallF → DrawF} (hX : ExtOk P X) (hdr : ∀ cf, CallOk P cf → DrawOk P (dr cf)) {lf n : Nat} {f : FuncId} {args : List Value} {tabs : Tabs} (hargs : args.all (plain 8) = true)
    (hp : ∀ t ∈ tabs, t.2.all (fun v => plain 8 v && oneCell v) = true) (h : isV isTrue (callE P X dr lf n f args (St0 tabs)) = true) (W : World) (hW : Holds0 tabs W) :
    Calls P f args.toArray W fun e W' => e = .returned (.bool true) ∧ Below W.heap.size W W' := by
  cases hr : callE P X dr lf n f args (St0 tabs) with
  | none => rw [hr] at h; cases h
  | some p =>
    obtain ⟨u, s'⟩ := p
    rw [hr] at h
    have hu : u = .bool true := by
      unfold isV isTrue at h
      simp only at h
      split at h
      · rw [h]
      · cases h
    subst hu
    have hv : VRs (mapOf W) args args := ⟨rfl, fun i x x' h1 h2 => by rw [h1] at h2; cases h2; exact plain_VR _ 8 x (all_get hargs h1)⟩
    refine ((callE_sound hX hdr lf n f args (St0 tabs) _ s' hr).2 (kw0 W) (mapOf W) W args.toArray (rel0 hW hp) (glob0 W) (by simpa using hv)).mono ?_
    rintro e W' ⟨m', v', rfl, _, hv', hR⟩
    cases hv'
    exact ⟨rfl, hR.below.os, hR.below.tape, hR.below.output, hR.below.size, hR.below.keep⟩

def noX : ExtF := fun _ => none
theorem noX_ok (P : Program) : ExtOk P noX := fun f g h => by cases h
def noDraw : CallF → DrawF := fun _ _ _ => none
theorem noDraw_ok (P : Program) : ∀ cf, CallOk P cf → DrawOk P (noDraw cf) := fun cf _ ops f f' h => by cases h

end Go.AE
