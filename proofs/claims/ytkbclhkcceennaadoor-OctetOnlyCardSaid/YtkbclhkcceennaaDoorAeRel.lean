import Derived.Test.YtkbclhkcceennaaDoorAeEval
import Derived.Below
import Derived.Laws.Cells
import Derived.Laws.IdiomCopy
import Derived.LoopN
import Derived.Calls
import Derived.Orders
set_option linter.unusedSimpArgs false
set_option linter.unusedVariables false
namespace Go.AE
open Go

/-! ### tries -/
namespace PT
variable {α : Type}
theorem get_setF : ∀ (f k : Nat) (t : PT α) (v : Option α), k < f → ∀ j, (setF f t k v).get j = if j = k then v else t.get j := by
  intro f
  induction f with
  | zero => intro k t v h; omega
  | succ f ih =>
    intro k t v h j
    have e0 : ∀ a : Nat, Nat.beq a 0 = decide (a = 0) := fun a => by cases a <;> rfl
    have e1 : ∀ a b : Nat, Nat.beq a b = decide (a = b) := fun a b => by
      by_cases hh : a = b
      · simp [hh]
      · simp only [hh, decide_false]; exact Bool.eq_false_iff.2 (fun hb => hh (Nat.eq_of_beq_eq_true hb))
    have hd : ∀ a : Nat, Nat.div a 2 = a / 2 := fun _ => rfl
    have hm : ∀ a : Nat, Nat.mod a 2 = a % 2 := fun _ => rfl
    cases t with
    | leaf =>
      simp only [setF, e0, e1, hd, hm]
      by_cases hk : k = 0
      · subst hk
        simp only [decide_true, cond_true, get, e1, hd, hm]
        by_cases hj : j = 0
        · simp [hj]
        · simp only [hj, decide_false, cond_false, if_false]
          cases decide (j % 2 = 1) <;> simp [get]
      · simp only [hk, decide_false, cond_false]
        by_cases ho : k % 2 = 1
        · simp only [ho, decide_true, cond_true, get, e1, hd, hm]
          by_cases hj : j = 0
          · simp only [hj, decide_true, cond_true]; rw [if_neg (by omega)]
          · simp only [hj, decide_false, cond_false]
            by_cases hjo : j % 2 = 1
            · simp only [hjo, decide_true, cond_true]
              rw [ih _ _ _ (by omega)]
              by_cases hjk : j = k
              · subst hjk; simp
              · rw [if_neg hjk, if_neg (by omega)]; rfl
            · simp only [hjo, decide_false, cond_false]; rw [if_neg (by omega)]
        · simp only [ho, decide_false, cond_false, get, e1, hd, hm]
          by_cases hj : j = 0
          · simp only [hj, decide_true, cond_true]; rw [if_neg (by omega)]
          · simp only [hj, decide_false, cond_false]
            by_cases hjo : j % 2 = 1
            · simp only [hjo, decide_true, cond_true]; rw [if_neg (by omega)]
            · simp only [hjo, decide_false, cond_false]
              rw [ih _ _ _ (by simp only [Nat.pred_eq_sub_one]; omega)]
              by_cases hjk : j = k
              · subst hjk; simp
              · rw [if_neg hjk, if_neg (by simp only [Nat.pred_eq_sub_one]; omega)]; rfl
    | node l x r =>
      simp only [setF, e0, e1, hd, hm]
      by_cases hk : k = 0
      · subst hk
        simp only [decide_true, cond_true, get, e1, hd, hm]
        by_cases hj : j = 0
        · simp [hj]
        · simp only [hj, decide_false, cond_false, if_false]
      · simp only [hk, decide_false, cond_false]
        by_cases ho : k % 2 = 1
        · simp only [ho, decide_true, cond_true, get, e1, hd, hm]
          by_cases hj : j = 0
          · simp only [hj, decide_true, cond_true]; rw [if_neg (by omega)]
          · simp only [hj, decide_false, cond_false]
            by_cases hjo : j % 2 = 1
            · simp only [hjo, decide_true, cond_true]
              rw [ih _ _ _ (by omega)]
              by_cases hjk : j = k
              · subst hjk; simp
              · rw [if_neg hjk, if_neg (by omega)]
            · simp only [hjo, decide_false, cond_false]; rw [if_neg (by omega)]
        · simp only [ho, decide_false, cond_false, get, e1, hd, hm]
          by_cases hj : j = 0
          · simp only [hj, decide_true, cond_true]; rw [if_neg (by omega)]
          · simp only [hj, decide_false, cond_false]
            by_cases hjo : j % 2 = 1
            · simp only [hjo, decide_true, cond_true]; rw [if_neg (by omega)]
            · simp only [hjo, decide_false, cond_false]
              rw [ih _ _ _ (by simp only [Nat.pred_eq_sub_one]; omega)]
              by_cases hjk : j = k
              · subst hjk; simp
              · rw [if_neg hjk, if_neg (by simp only [Nat.pred_eq_sub_one]; omega)]

theorem get_set (t : PT α) (k : Nat) (v : Option α) (j : Nat) : (t.set k v).get j = if j = k then v else t.get j :=
  get_setF (k + 1) k t v (Nat.lt_succ_self k) j
theorem get_leaf (j : Nat) : (PT.leaf : PT α).get j = none := by cases j <;> rfl
end PT

theorem get_setCells : ∀ (vs : List Value) (t : PT Value) (i j : Nat), (setCells t i vs).get j = if i ≤ j ∧ j < i + vs.length then vs[j - i]? else t.get j
  | [], t, i, j => by simp [setCells]; omega
  | v :: vs, t, i, j => by
    simp only [setCells]
    rw [get_setCells vs, PT.get_set]
    by_cases h : j = i
    · subst h
      rw [if_neg (by omega), if_pos rfl, if_pos (by simp)]
      simp
    · by_cases h2 : i + 1 ≤ j ∧ j < i + 1 + vs.length
      · rw [if_pos h2, if_pos (by simp only [List.length_cons]; omega)]
        rw [show j - i = (j - (i + 1)) + 1 from by omega]; simp
      · rw [if_neg h2, if_neg h, if_neg (by simp only [List.length_cons]; omega)]

/-! ### where an abstract block lies -/
structure Loc where
  blk : Nat
  sh : Nat
  exact : Bool
  cs : Nat
  esz : Nat

abbrev Map := Nat → Option Loc

inductive VR (m : Map) : Value → Value → Prop
  | bool (b) : VR m (.bool b) (.bool b)
  | int (k n) : VR m (.int k n) (.int k n)
  | float (k b) : VR m (.float k b) (.float k b)
  | complex (k a b) : VR m (.complex k a b) (.complex k a b)
  | string (s) : VR m (.string s) (.string s)
  | ptr0 : VR m (.pointer none) (.pointer none)
  | ptr (a : Addr) (l : Loc) (h : m a.block = some l) (hs : a.spot = none) : VR m (.pointer (some a)) (.pointer (some ⟨l.blk, l.sh + a.off, none⟩))
  | slice0 (n c) : VR m (.slice none n c) (.slice none n c)
  | slice (a : Addr) (l : Loc) (n c c' : Nat) (h : m a.block = some l) (hs : a.spot = none) (he : l.exact = true → c' = c) (hc : c ≤ c') (hn : l.exact = false → l.sh + a.off + c' * l.esz ≤ l.cs) :
      VR m (.slice (some a) n c) (.slice (some ⟨l.blk, l.sh + a.off, none⟩) n c')
  | map0 : VR m (.map none) (.map none)
  | map (r : Nat) (l : Loc) (h : m r = some l) : VR m (.map (some r)) (.map (some l.blk))
  | sliceE (a a' : Addr) (l : Loc) (h : m a.block = some l) (he : l.exact = false) (hs : a.spot = none) (hb : a'.block = l.blk ∧ a'.spot = none) : VR m (.slice (some a) 0 0) (.slice (some a') 0 0)
  | chan0 : VR m (.chan none) (.chan none)
  | func (fn) (a a' b b' : Array Value) (ha : a.size = a'.size) (hb : b.size = b'.size) (h1 : ∀ (i : Nat) x x', a[i]? = some x → a'[i]? = some x' → VR m x x') (h2 : ∀ (i : Nat) x x', b[i]? = some x → b'[i]? = some x' → VR m x x') :
      VR m (.func fn a b) (.func fn a' b')
  | nilFunc : VR m .nilFunc .nilFunc
  | iface (t v v') (h : VR m v v') : VR m (.iface t v) (.iface t v')
  | nilIface : VR m .nilIface .nilIface
  | agg (a a' : Array Value) (ha : a.size = a'.size) (h1 : ∀ (i : Nat) x x', a[i]? = some x → a'[i]? = some x' → VR m x x') : VR m (.agg a) (.agg a')
  | tuple (a a' : Array Value) (ha : a.size = a'.size) (h1 : ∀ (i : Nat) x x', a[i]? = some x → a'[i]? = some x' → VR m x x') : VR m (.tuple a) (.tuple a')

def Map.le (m m' : Map) : Prop := ∀ id l, m id = some l → m' id = some l
theorem Map.le_refl (m : Map) : m.le m := fun _ _ h => h
theorem Map.le.trans {a b c : Map} (h : a.le b) (k : b.le c) : a.le c := fun id l e => k id l (h id l e)

theorem VR.mono {m m' : Map} (hm : m.le m') {v v' : Value} (h : VR m v v') : VR m' v v' := by
  induction h with
  | bool | int | float | complex | string | ptr0 | slice0 | map0 | chan0 | nilFunc | nilIface => constructor
  | ptr a l h hs => exact .ptr a l (hm _ _ h) hs
  | map r l h => exact .map r l (hm _ _ h)
  | sliceE a a' l h he hs hb => exact .sliceE a a' l (hm _ _ h) he hs hb
  | slice a l n c c' h hs he hc hn => exact .slice a l n c c' (hm _ _ h) hs he hc hn
  | func fn a a' b b' ha hb h1 h2 i1 i2 => exact .func fn a a' b b' ha hb i1 i2
  | iface t v v' h ih => exact .iface t v v' ih
  | agg a a' ha h1 ih => exact .agg a a' ha ih
  | tuple a a' ha h1 ih => exact .tuple a a' ha ih

/-- Rows of values that are the same, place by place. -/
def VRs (m : Map) (a a' : List Value) : Prop := a.length = a'.length ∧ ∀ (i : Nat) x x', a[i]? = some x → a'[i]? = some x' → VR m x x'
theorem VRs.mono {m m' : Map} (hm : m.le m') {a a' : List Value} (h : VRs m a a') : VRs m' a a' := ⟨h.1, fun i x x' h1 h2 => (h.2 i x x' h1 h2).mono hm⟩
theorem VRs.nil (m : Map) : VRs m [] [] := ⟨rfl, fun i x x' h => by simp at h⟩
theorem VRs.cons {m : Map} {v v' : Value} {a a' : List Value} (h : VR m v v') (hs : VRs m a a') : VRs m (v :: a) (v' :: a') := by
  refine ⟨by simp [hs.1], fun i x x' h1 h2 => ?_⟩
  cases i with
  | zero => simp at h1 h2; subst h1; subst h2; exact h
  | succ i => simp at h1 h2; exact hs.2 i x x' h1 h2
theorem VRs.uncons {m : Map} {v v' : Value} {a a' : List Value} (h : VRs m (v :: a) (v' :: a')) : VR m v v' ∧ VRs m a a' :=
  ⟨h.2 0 v v' rfl rfl, by simpa using h.1, fun i x x' h1 h2 => h.2 (i + 1) x x' (by simpa using h1) (by simpa using h2)⟩
theorem VRs.append {m : Map} : ∀ {a a' b b' : List Value}, VRs m a a' → VRs m b b' → VRs m (a ++ b) (a' ++ b')
  | [], [], _, _, _, h2 => h2
  | x :: a, y :: a', _, _, h1, h2 => by have := h1.uncons; exact VRs.cons this.1 (VRs.append this.2 h2)
  | [], _ :: _, _, _, h1, _ => by have := h1.1; simp at this
  | _ :: _, [], _, _, h1, _ => by have := h1.1; simp at this
theorem VRs.map {α : Type} {m : Map} {f g : α → Value} : ∀ (l : List α), (∀ x ∈ l, VR m (f x) (g x)) → VRs m (l.map f) (l.map g)
  | [], _ => VRs.nil m
  | x :: l, h => VRs.cons (h x (by simp)) (VRs.map l fun y hy => h y (by simp [hy]))
theorem VRs.get {m : Map} {a a' : List Value} (h : VRs m a a') {i : Nat} {x : Value} (hx : a[i]? = some x) : ∃ x', a'[i]? = some x' ∧ VR m x x' := by
  have hi : i < a.length := by
    rcases Nat.lt_or_ge i a.length with h' | h'
    · exact h'
    · rw [List.getElem?_eq_none h'] at hx; cases hx
  have hi' : i < a'.length := h.1 ▸ hi
  exact ⟨a'[i], List.getElem?_eq_getElem hi', h.2 i x _ hx (List.getElem?_eq_getElem hi')⟩
theorem VR.agg' {m : Map} {a a' : List Value} (h : VRs m a a') : VR m (.agg a.toArray) (.agg a'.toArray) :=
  .agg _ _ (by simpa using h.1) (by simpa using h.2)
theorem VR.tuple' {m : Map} {a a' : List Value} (h : VRs m a a') : VR m (.tuple a.toArray) (.tuple a'.toArray) :=
  .tuple _ _ (by simpa using h.1) (by simpa using h.2)
theorem VRs.of_arr {m : Map} {a a' : Array Value} (ha : a.size = a'.size) (h1 : ∀ (i : Nat) x x', a[i]? = some x → a'[i]? = some x' → VR m x x') : VRs m a.toList a'.toList :=
  ⟨by simpa using ha, by simpa using h1⟩
theorem VRs.all_one {m : Map} : ∀ {a a' : List Value}, VRs m a a' → (∀ x x', VR m x x' → oneCell x = oneCell x') → a.all oneCell = a'.all oneCell
  | [], [], _, _ => rfl
  | x :: a, y :: a', h, k => by simp only [List.all_cons]; rw [k _ _ h.uncons.1, VRs.all_one h.uncons.2 k]
  | [], _ :: _, h, _ => by have := h.1; simp at this
  | _ :: _, [], h, _ => by have := h.1; simp at this

theorem VR.one {m : Map} {v v' : Value} (h : VR m v v') : oneCell v = oneCell v' := by cases h <;> rfl
theorem VR.one' {m : Map} {v v' : Value} (h : VR m v v') : v'.oneCell' = oneCell v := by cases h <;> rfl
theorem VR.cells {m : Map} {v v' : Value} (h : VR m v v') : VRs m v.cells.toList v'.cells.toList := by
  cases h with
  | agg a a' ha h1 => exact VRs.of_arr ha h1
  | _ => simp only [Value.cells]; exact VRs.cons (by first | assumption | constructor <;> assumption) (VRs.nil m)

/-! ### values without an address -/
theorem all_mem {α : Type} {p : α → Bool} : ∀ {l : List α}, l.all p = true → ∀ x ∈ l, p x = true
  | [], _, x, h => by cases h
  | a :: l, h, x, hx => by
    simp only [List.all_cons, Bool.and_eq_true] at h
    rcases List.mem_cons.1 hx with rfl | hx
    · exact h.1
    · exact all_mem h.2 x hx
theorem plain_VR (m : Map) : ∀ (n : Nat) (v : Value), plain n v = true → VR m v v := by
  intro n
  induction n with
  | zero => intro v h; simp [plain] at h
  | succ n ih =>
    intro v h
    have arr : ∀ a : Array Value, a.toList.all (plain n) = true → ∀ (i : Nat) x x', a[i]? = some x → a[i]? = some x' → VR m x x' := fun a ha i x x' h1 h2 => by
      rw [h1] at h2; cases h2
      exact ih x (all_mem ha x (by rw [Array.mem_toList_iff]; exact Array.mem_of_getElem? h1))
    cases v with
    | bool | int | float | complex | string | nilFunc | nilIface => constructor
    | pointer a => cases a with
      | none => constructor
      | some a => simp [plain] at h
    | slice a _ _ => cases a with
      | none => constructor
      | some a => simp [plain] at h
    | map a => cases a with
      | none => constructor
      | some a => simp [plain] at h
    | chan a => cases a with
      | none => constructor
      | some a => simp [plain] at h
    | iface t v => exact .iface t v v (ih v (by simpa [plain] using h))
    | agg cs => exact .agg cs cs rfl (arr cs (by simpa only [plain] using h))
    | tuple cs => exact .tuple cs cs rfl (arr cs (by simpa only [plain] using h))
    | func fn a b =>
      simp only [plain, Bool.and_eq_true] at h
      exact .func fn a a b b rfl rfl (arr a h.1) (arr b h.2)
theorem plain_eq {m : Map} : ∀ (n : Nat) (v v' : Value), plain n v = true → VR m v v' → v' = v := by
  intro n
  induction n with
  | zero => intro v v' h; simp [plain] at h
  | succ n ih =>
    intro v v' h hv
    have arr : ∀ a a' : Array Value, a.toList.all (plain n) = true → a.size = a'.size → (∀ (i : Nat) x x', a[i]? = some x → a'[i]? = some x' → VR m x x') → a' = a := fun a a' ha hs h1 => by
      apply Array.ext hs.symm
      intro i hi hi'
      exact ih _ _ (all_mem ha _ (by rw [Array.mem_toList_iff]; exact Array.getElem_mem hi')) (h1 i _ _ (Array.getElem?_eq_getElem hi') (Array.getElem?_eq_getElem hi))
    cases hv with
    | bool | int | float | complex | string | nilFunc | nilIface | ptr0 | slice0 | map0 | chan0 => rfl
    | ptr | slice | map | sliceE => simp [plain] at h
    | iface t v v' hv => rw [ih v v' (by simpa [plain] using h) hv]
    | agg a a' ha h1 => rw [arr a a' (by simpa only [plain] using h) ha h1]
    | tuple a a' ha h1 => rw [arr a a' (by simpa only [plain] using h) ha h1]
    | func fn a a' b b' ha hb h1 h2 =>
      simp only [plain, Bool.and_eq_true] at h
      rw [arr a a' h.1 ha h1, arr b b' h.2 hb h2]

theorem pureEval_run (P : Program) {α : Type} : ∀ (s : Sem α) (a : α), pureEval P s = some a → ∀ w, s.run P w = .ok a w := by
  intro s
  induction s with
  | pure a => intro b h w; simp only [pureEval] at h; cases h; rfl
  | program k ih => intro b h w; simp only [pureEval] at h; simp only [Sem.run]; exact ih P b h w
  | mark m k ih => intro b h w; simp only [pureEval] at h; simp only [Sem.run]; exact ih b h w
  | _ => intro b h w; simp [pureEval] at h

end Go.AE
