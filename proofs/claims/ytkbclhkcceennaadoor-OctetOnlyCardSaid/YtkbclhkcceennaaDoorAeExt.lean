import Derived.Test.YtkbclhkcceennaaDoorAeTop
import Derived.Lib.LaidTab
import Derived.Lib.Join
set_option linter.unusedVariables false
namespace Go.AE
open Go Go.RowKit

/-! ### tables that are laid, one behind the other -/
theorem laidMet_tail {P : Program} {x : String × DataW Unit} {rest : List (String × DataW Unit)} {W : World} (h : laidMet P (x :: rest) W) : laidMet P rest W := by
  obtain ⟨ps, ⟨g, t, cs, fuel, p, q, h1, h2, h3, h4, h5, rfl⟩, hn, hc⟩ := h
  exact ⟨q, h5, (List.nodup_append.1 hn).2.1, fun b off hm => hc b off (List.mem_append.2 (.inr hm))⟩

theorem tab_holds {P : Program} {W : World} {name : String} {k : IntKind} {zs : List Int} {g : Nat} (h : Lib.TabIs P W name k zs) (hg : P.globalNamed name = some g) (hne : zs ≠ []) :
    zs.map (Value.int k) ≠ [] ∧ ∀ (i : Nat) v, (zs.map (Value.int k))[i]? = some v → W.cell? ⟨g, i, none⟩ = some v := by
  refine ⟨by simpa using hne, fun i v hv => ?_⟩
  rw [List.getElem?_map] at hv
  cases hi : zs[i]? with
  | none => rw [hi] at hv; cases hv
  | some n =>
    rw [hi] at hv; cases hv
    have hlt : i < zs.length := by
      rcases Nat.lt_or_ge i zs.length with h' | h'
      · exact h'
      · rw [List.getElem?_eq_none h'] at hi; cases hi
    have := h.cell hg i hlt
    rw [List.getElem?_eq_getElem hlt] at hi
    simpa [List.getD, List.getElem?_eq_getElem hlt, hi] using this

theorem tab_plain (k : IntKind) (zs : List Int) : (zs.map (Value.int k)).all (fun v => plain 8 v && oneCell v) = true := by
  rw [List.all_eq_true]
  intro v hv
  obtain ⟨n, _, rfl⟩ := List.mem_map.1 hv
  rfl

/-! ### a world that has only grown -/
theorem Rel.grow {w0 : KW} {m : Map} {s : St} {w w' : World} (h : Rel w0 m s w) (hb : Below w.heap.size w w') : Rel w0 m s w' :=
  ⟨⟨h.below.step hb.os hb.tape hb.output hb.size fun k hk => hb.block k (h.below.lt hk), h.res, fun id b hi => let ⟨l, h1, h2⟩ := h.blk id b hi; ⟨l, h1, h2.world (hb.block _ h2.lt)⟩, h.inj,
    fun id x hx => let ⟨l, h1, h2, h3⟩ := h.maps id x hx; ⟨l, h1, by rw [hb.block _ (heap_lt h2)]; exact h2, h3⟩, h.minj⟩, h.pos, h.fresh⟩

/-! ### strings.Join -/
def strsOf : List Value → Option (List ByteArray)
  | [] => some []
  | .string b :: r => (strsOf r).bind fun l => some (b :: l)
  | _ => none
theorem strsOf_map : ∀ {vs : List Value} {l : List ByteArray}, strsOf vs = some l → vs = l.map .string
  | [], l, h => by simp only [strsOf, Option.some.injEq] at h; subst h; rfl
  | v :: vs, l, h => by
    unfold strsOf at h
    split at h
    · rename_i heq; cases heq
    · rename_i b r heq
      simp only [List.cons.injEq] at heq
      obtain ⟨rfl, rfl⟩ := heq
      obtain ⟨l', h1, h⟩ := Option.bind_eq_some_iff.1 h
      simp only [Option.some.injEq] at h; subst h
      rw [strsOf_map h1]; rfl
    · cases h

def joinX : List Value → St → Option (Value × St)
  | [.slice (some a) n c, .string sep], s => (s.loads a n).bind fun vs => (strsOf vs).bind fun l => (ck (!Nat.beq n 0 && Nat.ble n c && Nat.ble n 140737488355328 && Nat.ble (Lib.join (l.map (·.data.toList)) sep.data.toList).length 140737488355328)).bind fun _ =>
      some (.string ⟨(Lib.join (l.map (·.data.toList)) sep.data.toList).toArray⟩, s)
  | _, _ => none

/-- strings.Join's contract, at a program. -/
def JoinIs (P : Program) (f : FuncId) : Prop := ∀ (bk o c : Nat) (xs : List ByteArray) (sep : ByteArray) (w : World), (∀ (j : Nat) x, xs[j]? = some x → w.cell? ⟨bk, o + j, none⟩ = some (.string x)) → bk < w.heap.size →
  xs.length ≤ 140737488355328 → xs.length ≤ c → (Lib.join (xs.map (·.data.toList)) sep.data.toList).length ≤ 140737488355328 →
  Calls P f #[.slice (some ⟨bk, o, none⟩) xs.length c, .string sep] w fun e w' => e = .returned (.string ⟨(Lib.join (xs.map (·.data.toList)) sep.data.toList).toArray⟩) ∧ Below w.heap.size w w'

/-- What ExtOk asks of one function. -/
def Ext1 (P : Program) (f : FuncId) (g : List Value → St → Option (Value × St)) : Prop := ∀ args s v s', g args s = some (v, s') →
  (∃ fn, P.funcs[f]? = some fn ∧ (fn.name == "runtime.NumGoroutine") = false ∧ fn.body.isNone = false) ∧
  ∀ w0 m w (args' : Array Value), Rel w0 m s w → Glob m → VRs m args args'.toList → Calls P f args' w fun e w' => ∃ m' v', e = .returned v' ∧ m.le m' ∧ VR m' v v' ∧ Rel w0 m' s' w'

theorem joinX_ok {P : Program} {f : FuncId} (hf : ∃ fn, P.funcs[f]? = some fn ∧ (fn.name == "runtime.NumGoroutine") = false ∧ fn.body.isNone = false) (hJ : JoinIs P f) : Ext1 P f joinX := by
  intro args s v s' h
  refine ⟨hf, fun w0 m w args' hR hG hv => ?_⟩
  unfold joinX at h
  split at h
  · rename_i a n c sep
    replace h := Option.bind_eq_some_iff.1 h; obtain ⟨vs, hvs, h⟩ := h
    replace h := Option.bind_eq_some_iff.1 h; obtain ⟨l, hl, h⟩ := h
    replace h := Option.bind_eq_some_iff.1 h; obtain ⟨_, hck, h⟩ := h
    have hck := ck_some hck
    simp only [Bool.and_eq_true, Bool.not_eq_true'] at hck
    obtain ⟨⟨⟨k0, k1⟩, k2⟩, k3⟩ := hck
    have k1 := Nat.le_of_ble_eq_true k1
    have k2 := Nat.le_of_ble_eq_true k2
    have k3 := Nat.le_of_ble_eq_true k3
    simp only [Option.some.injEq, Prod.mk.injEq] at h
    obtain ⟨rfl, rfl⟩ := h
    obtain ⟨x, y, rfl⟩ : ∃ x y, args' = #[x, y] := by
      have := hv.1
      simp only [List.length_cons, List.length_nil] at this
      obtain ⟨l⟩ := args'
      match l, this with
      | [x, y], _ => exact ⟨x, y, rfl⟩
    obtain ⟨hx, hr⟩ := hv.uncons
    obtain ⟨hy, _⟩ := hr.uncons
    have hy' : y = .string sep := by cases hy; rfl
    subst hy'
    have hlen : vs.length = n := by
      unfold St.loads at hvs
      obtain ⟨b, hb, hvs⟩ := Option.bind_eq_some_iff.1 hvs
      have : ∀ (k i : Nat) (us : List Value), b.cells i k = some us → us.length = k := by
        intro k
        induction k with
        | zero => intro i us h; simp only [Blk.cells, Option.some.injEq] at h; subst h; rfl
        | succ k ih =>
          intro i us h
          simp only [Blk.cells] at h
          obtain ⟨u, _, h⟩ := Option.bind_eq_some_iff.1 h
          obtain ⟨r, hr, h⟩ := Option.bind_eq_some_iff.1 h
          simp only [Option.some.injEq] at h; subst h
          simp [ih _ _ hr]
      exact this _ _ _ hvs
    have hvl := strsOf_map hl
    have hln : l.length = n := by rw [← hlen, hvl]; simp
    cases hx with
    | sliceE => simp at k0
    | slice _ lo _ _ c' hm hs he hc hn =>
      obtain ⟨_, vs', h1, h2, h3⟩ := hR.loads hm hvs
      have hvs' : vs' = vs := by
        apply List.ext_getElem?
        intro i
        cases hi : vs[i]? with
        | none =>
          have h4 := List.getElem?_eq_none_iff.1 hi
          exact List.getElem?_eq_none (by rw [← h1.1]; exact h4)
        | some u =>
          obtain ⟨u', e1, e2⟩ := h1.get hi
          have : ∃ b, u = .string b := by
            rw [hvl, List.getElem?_map] at hi
            cases hj : l[i]? with
            | none => rw [hj] at hi; cases hi
            | some b => rw [hj] at hi; cases hi; exact ⟨b, rfl⟩
          obtain ⟨b, rfl⟩ := this
          cases e2; exact e1
      subst hvs'
      have hblk : lo.blk < w.heap.size := by
        have h0 : 0 < l.length := by
          rw [hln]; rcases Nat.eq_zero_or_pos n with e | e
          · rw [e] at k0; simp at k0
          · exact e
        have := h3 0 (.string l[0]) (by rw [hvl, List.getElem?_map, List.getElem?_eq_getElem h0]; rfl)
        unfold World.cell? at this
        rcases Nat.lt_or_ge lo.blk w.heap.size with h' | h'
        · exact h'
        · rw [Addr_add] at this; simp only [Array.getElem?_eq_none h'] at this; cases this
      have := hJ lo.blk (lo.sh + a.off) c' l sep w (fun j x hx => by
          have := h3 j (.string x) (by rw [hvl, List.getElem?_map, hx]; rfl)
          rwa [Addr_add] at this) hblk (by omega) (by omega) k3
      rw [hln] at this
      refine this.mono ?_
      rintro e w' ⟨rfl, hb⟩
      exact ⟨m, _, rfl, Map.le_refl m, .string _, hR.grow hb⟩
  · cases h

/-- One function by a contract. -/
def oneX (f : FuncId) (g : List Value → St → Option (Value × St)) (X : ExtF) : ExtF := fun k => cond (Nat.beq k f) (some g) (X k)
theorem oneX_ok {P : Program} {f : FuncId} {g : List Value → St → Option (Value × St)} {X : ExtF} (h : Ext1 P f g) (hX : ExtOk P X) : ExtOk P (oneX f g X) := by
  intro k g' hk
  unfold oneX at hk
  by_cases e : k = f
  · subst e
    rw [show Nat.beq k k = true from by simp, cond_true] at hk
    cases hk
    exact h
  · rw [show Nat.beq k f = false from by rw [Bool.eq_false_iff]; intro hx; exact e (Nat.eq_of_beq_eq_true hx), cond_false] at hk
    exact hX k g' hk

end Go.AE
