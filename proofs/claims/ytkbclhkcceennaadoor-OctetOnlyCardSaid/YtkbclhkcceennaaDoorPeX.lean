import Derived.Test.YtkbclhkcceennaaDoorAeO
set_option linter.unusedVariables false
set_option linter.unusedSimpArgs false
/-! Values without memory: slices as lists, objects by number. -/
namespace Go.PE
open Go Go.RowKit Go.AE
variable {P : Program}

/-- A value: plain; a slice that nobody writes; the same whose room is just its length; cells; several; an object's cell; a cell of what nobody writes; a row of one's own; a cell of its element; a function; a map; whatever. -/
inductive PV where
  | v (x : Value)
  | list (sz : Nat) (l : List PV)
  | lit (sz : Nat) (l : List PV)
  | agg (l : List PV)
  | tup (l : List PV)
  | ptr (id off : Nat)
  | fp (l : List PV) (off : Nat)
  | row (id n : Nat)
  | rp (id sz i off : Nat)
  | fn (f : FuncId) (a c : List PV)
  | map (id : Nat)
  | any

def PV.cells : PV → List PV
  | .agg l => l
  | x => [x]
def flatP (l : List PV) : List PV := l.flatMap PV.cells

/-- What lies under a number: an object's cells; a row of one's own; one that nobody writes any more; a map. -/
inductive PO where
  | obj (cells : List PV)
  | row (e : TypeId) (sz : Nat) (l : List PV)
  | froz (sz : Nat) (l : List PV)
  | map (es : Array MapEntry) (n : Nat)
def PO.mine : PO → Bool
  | .froz _ _ => false
  | _ => true

structure PM where
  o : List (Nat × PO)
  nx : Nat

def look : List (Nat × PO) → Nat → Option PO
  | [], _ => none
  | (k, p) :: r, i => if i = k then some p else look r i
/-- Another content. -/
def put : List (Nat × PO) → Nat → PO → List (Nat × PO)
  | [], _, _ => []
  | (k, p) :: r, i, q => if i = k then (k, q) :: r else (k, p) :: put r i q
def gone : List (Nat × PO) → Nat → List (Nat × PO)
  | [], _ => []
  | (k, p) :: r, i => if i = k then gone r i else (k, p) :: gone r i

theorem look_put : ∀ (o : List (Nat × PO)) (i : Nat) (q : PO) (j : Nat), look (put o i q) j = if j = i then (look o i).map (fun _ => q) else look o j
  | [], i, q, j => by simp [put, look]
  | (k, p) :: r, i, q, j => by
    unfold put
    by_cases h : i = k
    · subst h
      rw [if_pos rfl]
      by_cases e : j = i
      · subst e; simp [look]
      · simp [look, e]
    · rw [if_neg h]
      simp only [look]
      rw [look_put r i q j]
      by_cases e : j = i
      · subst e; rw [if_neg h, if_pos rfl, if_pos rfl, if_neg h]
      · rw [if_neg e, if_neg e]
theorem look_gone : ∀ (o : List (Nat × PO)) (i j : Nat), look (gone o i) j = if j = i then none else look o j
  | [], i, j => by simp [gone, look]
  | (k, p) :: r, i, j => by
    unfold gone
    by_cases h : i = k
    · subst h
      rw [if_pos rfl, look_gone r i j]
      by_cases e : j = i
      · rw [if_pos e, if_pos e]
      · rw [if_neg e, if_neg e]; simp [look, e]
    · rw [if_neg h]
      simp only [look]
      rw [look_gone r i j]
      by_cases e : j = i
      · subst e; rw [if_neg h, if_pos rfl, if_pos rfl]
      · rw [if_neg e, if_neg e]

abbrev Mu := Nat → Option Nat
def addr0 (k : Nat) : Addr := ⟨k, 0, none⟩

/-- A value's reading. 'sb': what nobody writes; 'μ': where the objects of numbers below 'nx' lie. -/
inductive VP (sb : St) (nx : Nat) (μ : Mu) : PV → Value → Prop
  | v (x : Value) (hp : AE.plain 8 x = true) (h1 : oneCell x = true) : VP sb nx μ (.v x) x
  | nil (sz : Nat) : VP sb nx μ (.list sz []) (.slice none 0 0)
  | list (sz : Nat) (l : List PV) (a : Addr) (c : Nat) (b : Blk) (vs : List Value) (hs : a.spot = none) (hc : l.length ≤ c) (hb : sb.h.get a.block = some b) (hl : b.cells a.off (l.length * sz) = some vs) (h1 : vs.all oneCell = true) (hk : b.exact = true ∨ b.esz = sz)
      (hf : ∀ x ∈ l, x.cells.length = sz) (h : ∀ (i : Nat) p x, (flatP l)[i]? = some p → vs[i]? = some x → VP sb nx μ p x) : VP sb nx μ (.list sz l) (.slice (some a) l.length c)
  | lit (sz : Nat) (l : List PV) (a : Addr) (b : Blk) (vs : List Value) (hs : a.spot = none) (hb : sb.h.get a.block = some b) (hl : b.cells a.off (l.length * sz) = some vs) (h1 : vs.all oneCell = true) (hk : b.exact = true)
      (hf : ∀ x ∈ l, x.cells.length = sz) (h : ∀ (i : Nat) p x, (flatP l)[i]? = some p → vs[i]? = some x → VP sb nx μ p x) : VP sb nx μ (.lit sz l) (.slice (some a) l.length l.length)
  | agg (l : List PV) (vs : Array Value) (hn : l.length = vs.size) (h1 : vs.toList.all oneCell = true) (h : ∀ (i : Nat) p x, l[i]? = some p → vs[i]? = some x → VP sb nx μ p x) : VP sb nx μ (.agg l) (.agg vs)
  | tup (l : List PV) (vs : Array Value) (hn : l.length = vs.size) (h : ∀ (i : Nat) p x, l[i]? = some p → vs[i]? = some x → VP sb nx μ p x) : VP sb nx μ (.tup l) (.tuple vs)
  | ptr (id off k : Nat) (hi : id < nx) (hm : μ id = some k) : VP sb nx μ (.ptr id off) (.pointer (some ⟨k, off, none⟩))
  | fp (l : List PV) (off : Nat) (k z : Nat) (b : Blk) (vs : List Value) (hb : sb.h.get k = some b) (hl : b.cells z l.length = some vs) (h1 : vs.all oneCell = true) (h : ∀ (i : Nat) p x, l[i]? = some p → vs[i]? = some x → VP sb nx μ p x) : VP sb nx μ (.fp l off) (.pointer (some ⟨k, z + off, none⟩))
  | row (id n : Nat) (hi : id < nx) : VP sb nx μ (.row id n) (.slice ((μ id).map addr0) n n)
  | rp (id sz i off k : Nat) (hi : id < nx) (hm : μ id = some k) : VP sb nx μ (.rp id sz i off) (.pointer (some ⟨k, i * sz + off, none⟩))
  | fn (f : FuncId) (a c : List PV) (a' c' : Array Value) (ha : a.length = a'.size) (hc : c.length = c'.size) (h1 : ∀ (i : Nat) p x, a[i]? = some p → a'[i]? = some x → VP sb nx μ p x) (h2 : ∀ (i : Nat) p x, c[i]? = some p → c'[i]? = some x → VP sb nx μ p x) : VP sb nx μ (.fn f a c) (.func (.func f) a' c')
  | map (id k : Nat) (hi : id < nx) (hm : μ id = some k) : VP sb nx μ (.map id) (.map (some k))
  | any (x : Value) : VP sb nx μ .any x

/-- What is new is new. -/
structure Later (nx : Nat) (μ : Mu) (nx' : Nat) (μ' : Mu) : Prop where
  le : nx ≤ nx'
  mu : ∀ id, id < nx → μ' id = μ id
theorem Later.refl (nx : Nat) (μ : Mu) : Later nx μ nx μ := ⟨Nat.le_refl _, fun _ _ => rfl⟩
theorem Later.trans {nx nx' nx'' : Nat} {μ μ' μ'' : Mu} (h : Later nx μ nx' μ') (k : Later nx' μ' nx'' μ'') : Later nx μ nx'' μ'' :=
  ⟨Nat.le_trans h.le k.le, fun id hi => (k.mu id (Nat.lt_of_lt_of_le hi h.le)).trans (h.mu id hi)⟩
def Kept (sb sb' : St) : Prop := ∀ id b, sb.h.get id = some b → sb'.h.get id = some b
theorem Kept.refl (sb : St) : Kept sb sb := fun _ _ h => h
theorem Kept.trans {a b c : St} (h : Kept a b) (k : Kept b c) : Kept a c := fun id x e => k id x (h id x e)

theorem VP.mono {sb sb' : St} {nx nx' : Nat} {μ μ' : Mu} (hg : Kept sb sb') (hl : Later nx μ nx' μ') {p : PV} {x : Value} (h : VP sb nx μ p x) : VP sb' nx' μ' p x := by
  induction h with
  | v x hp h1 => exact .v x hp h1
  | nil sz => exact .nil sz
  | list sz l a c b vs hs hc hb hl h1 hk hf h ih => exact .list sz l a c b vs hs hc (hg _ _ hb) hl h1 hk hf ih
  | lit sz l a b vs hs hb hl h1 hk hf h ih => exact .lit sz l a b vs hs (hg _ _ hb) hl h1 hk hf ih
  | agg l vs hn h1 h ih => exact .agg l vs hn h1 ih
  | tup l vs hn h ih => exact .tup l vs hn ih
  | ptr id off k hi hm => exact .ptr id off k (Nat.lt_of_lt_of_le hi hl.le) ((hl.mu id hi).trans hm)
  | fp l off k z b vs hb hl h1 h ih => exact .fp l off k z b vs (hg _ _ hb) hl h1 ih
  | row id n hi => rw [← hl.mu id hi]; exact .row id n (Nat.lt_of_lt_of_le hi hl.le)
  | rp id sz i off k hi hm => exact .rp id sz i off k (Nat.lt_of_lt_of_le hi hl.le) ((hl.mu id hi).trans hm)
  | fn f a c a' c' ha hc h1 h2 i1 i2 => exact .fn f a c a' c' ha hc i1 i2
  | map id k hi hm => exact .map id k (Nat.lt_of_lt_of_le hi hl.le) ((hl.mu id hi).trans hm)
  | any x => exact .any x

/-- Rows, place by place. -/
def VPs (sb : St) (nx : Nat) (μ : Mu) (l : List PV) (vs : List Value) : Prop := l.length = vs.length ∧ ∀ (i : Nat) p x, l[i]? = some p → vs[i]? = some x → VP sb nx μ p x
variable {sb sb' : St} {nx nx' : Nat} {μ μ' : Mu}
theorem VPs.mono (hg : Kept sb sb') (hl : Later nx μ nx' μ') {l : List PV} {vs : List Value} (h : VPs sb nx μ l vs) : VPs sb' nx' μ' l vs := ⟨h.1, fun i p x h1 h2 => (h.2 i p x h1 h2).mono hg hl⟩
theorem VPs.nil : VPs sb nx μ [] [] := ⟨rfl, fun i p x h => by simp at h⟩
theorem VPs.cons {p : PV} {x : Value} {l : List PV} {vs : List Value} (h : VP sb nx μ p x) (hs : VPs sb nx μ l vs) : VPs sb nx μ (p :: l) (x :: vs) := by
  refine ⟨by simp [hs.1], fun i q y h1 h2 => ?_⟩
  cases i with
  | zero => simp at h1 h2; subst h1; subst h2; exact h
  | succ i => simp at h1 h2; exact hs.2 i q y h1 h2
theorem VPs.uncons {p : PV} {x : Value} {l : List PV} {vs : List Value} (h : VPs sb nx μ (p :: l) (x :: vs)) : VP sb nx μ p x ∧ VPs sb nx μ l vs :=
  ⟨h.2 0 p x rfl rfl, by simpa using h.1, fun i q y h1 h2 => h.2 (i + 1) q y (by simpa using h1) (by simpa using h2)⟩
theorem VPs.append : ∀ {a b : List PV} {x y : List Value}, VPs sb nx μ a x → VPs sb nx μ b y → VPs sb nx μ (a ++ b) (x ++ y)
  | [], _, [], _, _, h => h
  | p :: a, b, x :: xs, y, h1, h2 => VPs.cons h1.uncons.1 (VPs.append h1.uncons.2 h2)
  | [], _, _ :: _, _, h, _ => by have := h.1; simp at this
  | _ :: _, _, [], _, h, _ => by have := h.1; simp at this
theorem VPs.split : ∀ {a b : List PV} {z : List Value}, VPs sb nx μ (a ++ b) z → ∃ x y, z = x ++ y ∧ VPs sb nx μ a x ∧ VPs sb nx μ b y
  | [], b, z, h => ⟨[], z, rfl, VPs.nil, h⟩
  | p :: a, b, [], h => by have := h.1; simp at this
  | p :: a, b, x :: z, h => by
    obtain ⟨xs, y, rfl, h1, h2⟩ := VPs.split h.uncons.2
    exact ⟨x :: xs, y, rfl, VPs.cons h.uncons.1 h1, h2⟩
theorem VPs.get {l : List PV} {vs : List Value} (h : VPs sb nx μ l vs) {i : Nat} {p : PV} (hi : l[i]? = some p) : ∃ x, vs[i]? = some x ∧ VP sb nx μ p x := by
  have hlt : i < l.length := by
    rcases Nat.lt_or_ge i l.length with h' | h'
    · exact h'
    · rw [List.getElem?_eq_none h'] at hi; cases hi
  have hlt' : i < vs.length := h.1 ▸ hlt
  exact ⟨vs[i], List.getElem?_eq_getElem hlt', h.2 i p _ hi (List.getElem?_eq_getElem hlt')⟩
theorem VPs.take {l : List PV} {vs : List Value} (h : VPs sb nx μ l vs) (n : Nat) : VPs sb nx μ (l.take n) (vs.take n) := by
  refine ⟨by simp [h.1], fun i p x h1 h2 => ?_⟩
  rw [List.getElem?_take] at h1 h2
  split at h1
  · rename_i hi; rw [if_pos hi] at h2; exact h.2 i p x h1 h2
  · cases h1
theorem VPs.drop {l : List PV} {vs : List Value} (h : VPs sb nx μ l vs) (n : Nat) : VPs sb nx μ (l.drop n) (vs.drop n) := by
  refine ⟨by simp [h.1], fun i p x h1 h2 => ?_⟩
  rw [List.getElem?_drop] at h1 h2
  exact h.2 _ p x h1 h2
theorem VPs.map {α : Type} {f : α → PV} {g : α → Value} : ∀ (l : List α), (∀ x ∈ l, VP sb nx μ (f x) (g x)) → VPs sb nx μ (l.map f) (l.map g)
  | [], _ => VPs.nil
  | x :: l, h => VPs.cons (h x (by simp)) (VPs.map l fun y hy => h y (by simp [hy]))

/-- One cell: neither cells nor several, and not whatever. -/
def PV.one : PV → Bool
  | .agg _ | .tup _ | .any => false
  | _ => true
theorem VP.one {p : PV} {x : Value} (h : VP sb nx μ p x) (hp : p.one = true) : oneCell x = true := by
  cases h <;> first | rfl | assumption | (simp [PV.one] at hp)
theorem cells_one {x : Value} (h : oneCell x = true) : x.cells = #[x] := by
  cases x <;> first | rfl | (simp [oneCell] at h)
theorem cells_pone {p : PV} (h : p.one = true) : p.cells = [p] := by
  cases p <;> first | rfl | (simp [PV.one] at h)
theorem VP.cells {p : PV} {x : Value} (h : VP sb nx μ p x) (hp : p.cells.all PV.one = true) : VPs sb nx μ p.cells x.cells.toList ∧ x.cells.toList.all oneCell = true := by
  cases hq : p.one with
  | true =>
    rw [cells_pone hq, cells_one (h.one hq)]
    exact ⟨VPs.cons h VPs.nil, by simp [h.one hq]⟩
  | false =>
    cases h with
    | agg l vs hn h1 h => exact ⟨⟨by simpa [Value.cells, PV.cells] using hn, by simpa [Value.cells, PV.cells] using h⟩, h1⟩
    | any => simp [PV.cells, PV.one] at hp
    | tup => simp [PV.cells, PV.one] at hp
    | v x hp' h1 => simp [PV.one] at hq
    | _ => simp [PV.one] at hq

/-! ### what one owns, and what is left -/
def dropAll {α : Type} (h : PT α) : List Nat → PT α
  | [] => h
  | k :: r => (dropAll h r).set k none
theorem dropAll_get {α : Type} (h : PT α) : ∀ (ks : List Nat) (j : Nat), (dropAll h ks).get j = if j ∈ ks then none else h.get j
  | [], j => by simp [dropAll]
  | k :: r, j => by
    unfold dropAll
    rw [PT.get_set, dropAll_get h r j]
    by_cases e : j = k
    · simp [e]
    · by_cases e2 : j ∈ r <;> simp [e, e2]
def ownOf (o : List (Nat × PO)) (μ : Mu) (id : Nat) : Option Nat := match look o id with
  | some p => if p.mine = true then μ id else none
  | none => none
def owned (o : List (Nat × PO)) (μ : Mu) : List Nat := (o.map (·.1)).filterMap (ownOf o μ)
theorem look_key : ∀ {o : List (Nat × PO)} {i : Nat} {p : PO}, look o i = some p → i ∈ o.map (·.1)
  | (k, q) :: r, i, p, h => by
    unfold look at h
    split at h
    · rename_i e; simp [e]
    · have := look_key h; simp only [List.map_cons, List.mem_cons]; exact .inr this
theorem mem_owned {o : List (Nat × PO)} {μ : Mu} {k : Nat} : k ∈ owned o μ ↔ ∃ id p, look o id = some p ∧ p.mine = true ∧ μ id = some k := by
  unfold owned
  rw [List.mem_filterMap]
  constructor
  · rintro ⟨id, _, h⟩
    unfold ownOf at h
    split at h
    · rename_i p hp
      split at h
      · rename_i hm; exact ⟨id, p, hp, hm, h⟩
      · cases h
    · cases h
  · rintro ⟨id, p, h1, h2, h3⟩
    refine ⟨id, look_key h1, ?_⟩
    unfold ownOf
    simp [h1, h2, h3]
/-- What nobody writes. -/
def base (μ : Mu) (o : List (Nat × PO)) (s : St) : St := { s with h := dropAll s.h (owned o μ) }
theorem base_get (μ : Mu) (o : List (Nat × PO)) (s : St) (k : Nat) : (base μ o s).h.get k = if k ∈ owned o μ then none else s.h.get k := dropAll_get _ _ _
theorem base_some {μ : Mu} {o : List (Nat × PO)} {s : St} {k : Nat} {b : Blk} (h : (base μ o s).h.get k = some b) : s.h.get k = some b ∧ k ∉ owned o μ := by
  rw [base_get] at h
  split at h
  · cases h
  · rename_i hk; exact ⟨h, hk⟩

def CellsVP (sb : St) (nx : Nat) (μ : Mu) (b : Blk) (l : List PV) : Prop := ∀ (i : Nat) p, l[i]? = some p → ∃ x, b.cell i = some x ∧ oneCell x = true ∧ VP sb nx μ p x
theorem CellsVP.mono {b : Blk} {l : List PV} (hg : Kept sb sb') (hl : Later nx μ nx' μ') (h : CellsVP sb nx μ b l) : CellsVP sb' nx' μ' b l := fun i p hi => let ⟨x, h1, h2, h3⟩ := h i p hi; ⟨x, h1, h2, h3.mono hg hl⟩
/-- A number's content, where it lies. 'sb': what nobody writes. -/
def Own (sb : St) (nx : Nat) (μ : Mu) (s : St) (k? : Option Nat) : PO → Prop
  | .obj cells => ∃ k b, k? = some k ∧ s.h.get k = some b ∧ b.ro = false ∧ b.exact = true ∧ b.n = cells.length ∧ CellsVP sb nx μ b cells
  | .row e sz l => (∀ x ∈ l, x.cells.length = sz) ∧ ((k? = none ∧ l = []) ∨ ∃ k b, k? = some k ∧ s.h.get k = some b ∧ b.ro = false ∧ b.n = l.length * sz ∧ (b.exact = false → b.esz = sz ∧ b.elem = e) ∧ CellsVP sb nx μ b (flatP l))
  | .froz sz l => (∀ x ∈ l, x.cells.length = sz) ∧ ((k? = none ∧ l = []) ∨ ∃ k b, k? = some k ∧ sb.h.get k = some b ∧ (b.exact = true ∨ b.esz = sz) ∧ b.n = l.length * sz ∧ CellsVP sb nx μ b (flatP l))
  | .map es n => ∃ k, k? = some k ∧ s.hm.get k = some (es, n)

/-- Tables: variables that nobody writes. -/
def tabOf : Tabs → Nat → Option (List Value)
  | [], _ => none
  | (g, l) :: r, i => if i = g then some l else tabOf r i

structure RelP (T : Tabs) (μ : Mu) (σ : PM) (s : St) : Prop where
  wf : Wf s
  own : ∀ id p, look σ.o id = some p → Own (base μ σ.o s) σ.nx μ s (μ id) p
  inj : ∀ i j p q k, look σ.o i = some p → look σ.o j = some q → p.mine = true → μ i = some k → μ j = some k → i = j
  apart : ∀ i p k, look σ.o i = some p → μ i = some k → ∀ j, k ≠ 2 * (s.nx + s.st * j)
  lt : ∀ id p, look σ.o id = some p → id < σ.nx
  tabs : ∀ g l, tabOf T g = some l → ∃ b, (base μ σ.o s).h.get (2 * g + 1) = some b ∧ b.cells 0 l.length = some l ∧ ∀ x ∈ l, AE.plain 8 x = true ∧ oneCell x = true
end Go.PE
set_option linter.unusedVariables false
set_option linter.unusedSimpArgs false
/-! What a call does not look at stays as it is. -/
namespace Go.PE
open Go Go.RowKit Go.AE
variable {P : Program}

/-- A number's block and map, taken away; put back. -/
def out (s : St) (id : Nat) : St := { s with h := s.h.set id none, hm := s.hm.set id none }
def back (s1 s : St) (id : Nat) : St := { s1 with h := s1.h.set id (s.h.get id), hm := s1.hm.set id (s.hm.get id) }
theorem out_h (s : St) (id j : Nat) : (out s id).h.get j = if j = id then none else s.h.get j := by unfold out; simp only [PT.get_set]
theorem out_hm (s : St) (id j : Nat) : (out s id).hm.get j = if j = id then none else s.hm.get j := by unfold out; simp only [PT.get_set]
theorem back_h (s1 s : St) (id j : Nat) : (back s1 s id).h.get j = if j = id then s.h.get id else s1.h.get j := by unfold back; simp only [PT.get_set]
theorem back_hm (s1 s : St) (id j : Nat) : (back s1 s id).hm.get j = if j = id then s.hm.get id else s1.hm.get j := by unfold back; simp only [PT.get_set]

/-- There is a block that may be written, or a map, under that number, and not both. -/
def Mine (s : St) (id : Nat) : Prop := ∃ b, s.h.get id = some b ∧ b.ro = false
def MineM (s : St) (id : Nat) : Prop := ∃ x, s.hm.get id = some x

structure Back (s : St) (id : Nat) (s1 s' : St) : Prop where
  eq : s' = back s1 s id
  noH : s1.h.get id = none
  noM : s1.hm.get id = none
  far : ∀ j, id ≠ 2 * (s1.nx + s1.st * j)

theorem frame1 {f : FuncId} {vs : List Value} {s : St} {Post : Value → St → Prop} {id : Nat} (hid : Mine s id ∨ MineM s id) (h : CallT P f vs (out s id) Post) : CallT P f vs s fun v s' => ∃ s1, Post v s1 ∧ Back s id s1 s' := by
  refine ⟨h.1, fun w0 m w args' hR hG hv => ?_⟩
  -- where it lies
  have hloc : ∃ l, m id = some l ∧ l.blk < w.heap.size ∧ ¬ w0.K l.blk := by
    rcases hid with ⟨b, hb, hro⟩ | ⟨x, hx⟩
    · obtain ⟨l, hl, hB⟩ := hR.blk id b hb
      obtain ⟨cs, fr, t, _, hw, _⟩ := hB.obj
      refine ⟨l, hl, ?_, hB.lo hro⟩
      rcases Nat.lt_or_ge l.blk w.heap.size with h' | h'
      · exact h'
      · rw [Array.getElem?_eq_none h'] at hw; cases hw
    · obtain ⟨l, hl, hw, hk⟩ := hR.maps id x hx
      refine ⟨l, hl, ?_, hk⟩
      rcases Nat.lt_or_ge l.blk w.heap.size with h' | h'
      · exact h'
      · rw [Array.getElem?_eq_none h'] at hw; cases hw
  obtain ⟨l, hl, hlt, hnK⟩ := hloc
  -- no other block, and no other map, lies there
  have hob : ∀ j bj lj, s.h.get j = some bj → m j = some lj → j ≠ id → bj.ro = false → lj.blk ≠ l.blk := by
    intro j bj lj hj hlj hne hro he
    obtain ⟨l2, hl2, hB⟩ := hR.blk j bj hj
    rw [hlj] at hl2; cases hl2
    rcases hid with ⟨b, hb, _⟩ | ⟨x, hx⟩
    · exact hne (hR.inj j id bj b lj l hj hb hlj hl he (.inl hro))
    · obtain ⟨l3, hl3, hw, _⟩ := hR.maps id x hx
      rw [hl] at hl3; cases hl3
      obtain ⟨cs, fr, t, _, hw2, _⟩ := hB.obj
      rw [he, hw] at hw2; cases hw2
  have hom : ∀ j xj lj, s.hm.get j = some xj → m j = some lj → j ≠ id → lj.blk ≠ l.blk := by
    intro j xj lj hj hlj hne he
    obtain ⟨l2, hl2, hw2, _⟩ := hR.maps j xj hj
    rw [hlj] at hl2; cases hl2
    rcases hid with ⟨b, hb, _⟩ | ⟨x, hx⟩
    · obtain ⟨l3, hl3, hB⟩ := hR.blk id b hb
      rw [hl] at hl3; cases hl3
      obtain ⟨cs, fr, t, _, hw, _⟩ := hB.obj
      rw [he, hw] at hw2; cases hw2
    · exact hne (hR.minj j id xj x lj l hj hx hlj hl he)
  let w1 : KW := { w := w, K := fun k => w0.K k ∨ k = l.blk, R := w0.R, F := w0.F, sub := fun k hk => .inl (w0.sub k hk), lt := fun k hk => by rcases hk with hk | rfl; exact hR.below.lt hk; exact hlt }
  have hR1 : Rel w1 m (out s id) w := by
    refine ⟨⟨Keeps.refl w1, hR.res, fun j b hj => ?_, fun i j bi bj li lj hi hj => ?_, fun j x hj => ?_, fun i j bi bj li lj hi hj => ?_⟩, hR.pos, hR.fresh⟩
    · rw [out_h] at hj
      split at hj
      · cases hj
      · rename_i hne
        obtain ⟨lj, hlj, hB⟩ := hR.blk j b hj
        refine ⟨lj, hlj, hB.ex, hB.es, hB.obj, fun hro hk => ?_, hB.hi⟩
        rcases hk with hk | hk
        · exact hB.lo hro hk
        · exact hob j b lj hj hlj hne hro hk
    · rw [out_h] at hi hj
      split at hi
      · cases hi
      · split at hj
        · cases hj
        · exact hR.inj i j bi bj li lj hi hj
    · rw [out_hm] at hj
      split at hj
      · cases hj
      · rename_i hne
        obtain ⟨lj, hlj, hw, hk⟩ := hR.maps j x hj
        refine ⟨lj, hlj, hw, fun hk' => ?_⟩
        rcases hk' with hk' | hk'
        · exact hk hk'
        · exact hom j x lj hj hlj hne hk'
    · rw [out_hm] at hi hj
      split at hi
      · cases hi
      · split at hj
        · cases hj
        · exact hR.minj i j bi bj li lj hi hj
  refine (h.2 w1 m w args' hR1 hG hv).mono ?_
  rintro e w' ⟨m', v, v', s1, rfl, hm, hvv, hR2, hp⟩
  have hl' := hm id l hl
  have hheap : w'.heap[l.blk]? = w.heap[l.blk]? := hR2.below.keep _ (.inr rfl)
  have hnoH : s1.h.get id = none := by
    cases hh : s1.h.get id with
    | none => rfl
    | some b =>
      exfalso
      obtain ⟨l2, hl2, hB⟩ := hR2.blk id b hh
      rw [hl'] at hl2; cases hl2
      cases hro : b.ro with
      | false => exact hB.lo hro (.inr rfl)
      | true => exact hnK (w0.sub _ (hB.hi hro))
  have hnoM : s1.hm.get id = none := by
    cases hh : s1.hm.get id with
    | none => rfl
    | some x =>
      exfalso
      obtain ⟨l2, hl2, hw, hk⟩ := hR2.maps id x hh
      rw [hl'] at hl2; cases hl2
      exact hk (.inr rfl)
  have hfar : ∀ j, id ≠ 2 * (s1.nx + s1.st * j) := by
    intro j he
    have := (hR2.fresh j).1
    rw [← he, hl'] at this; cases this
  refine ⟨m', v, v', back s1 s id, rfl, hm, hvv, ?_, s1, hp, rfl, hnoH, hnoM, hfar⟩
  have hkeep : Keeps w0 w' := hR.below.step hR2.below.os hR2.below.tape hR2.below.output hR2.below.size fun k hk => hR2.below.keep k (.inl hk)
  -- what lies in the new state does not lie there
  have nb : ∀ j bj lj, s1.h.get j = some bj → m' j = some lj → lj.blk ≠ l.blk := by
    intro j bj lj hj hlj he
    obtain ⟨l2, hl2, hB⟩ := hR2.blk j bj hj
    rw [hlj] at hl2; cases hl2
    cases hro : bj.ro with
    | false => exact hB.lo hro (.inr he)
    | true => exact hnK (w0.sub _ (he ▸ hB.hi hro))
  have nm : ∀ j xj lj, s1.hm.get j = some xj → m' j = some lj → lj.blk ≠ l.blk := by
    intro j xj lj hj hlj he
    obtain ⟨l2, hl2, hw, hk⟩ := hR2.maps j xj hj
    rw [hlj] at hl2; cases hl2
    exact hk (.inr he)
  refine ⟨⟨hkeep, hR2.res, fun j b hj => ?_, fun i j bi bj li lj hi hj hli hlj he hro => ?_, fun j x hj => ?_, fun i j bi bj li lj hi hj hli hlj he => ?_⟩, hR2.pos, hR2.fresh⟩
  · rw [back_h] at hj
    split at hj
    · rename_i he; subst he
      obtain ⟨l2, hl2, hB⟩ := hR.blk j b hj
      rw [hl] at hl2; cases hl2
      obtain ⟨cs, fr, t, h1, h2, h3, h4, h5, h6⟩ := hB.obj
      exact ⟨l, hl', hB.ex, hB.es, ⟨cs, fr, t, h1, hheap.trans h2, h3, h4, fun i v hv => let ⟨v', q1, q2, q3⟩ := h5 i v hv; ⟨v', q1, q2.mono hm, q3⟩, h6⟩, hB.lo, hB.hi⟩
    · obtain ⟨lj, hlj, hB⟩ := hR2.blk j b hj
      exact ⟨lj, hlj, hB.ex, hB.es, hB.obj, fun hro hk => hB.lo hro (.inl hk), hB.hi⟩
  · rw [back_h] at hi hj
    split at hi
    · rename_i h1
      subst h1
      rw [hl'] at hli; cases hli
      split at hj
      · rename_i h2; exact h2.symm
      · exact absurd he.symm (nb j bj lj hj hlj)
    · split at hj
      · rename_i h2; subst h2
        rw [hl'] at hlj; cases hlj
        exact absurd he (nb i bi li hi hli)
      · exact hR2.inj i j bi bj li lj hi hj hli hlj he hro
  · rw [back_hm] at hj
    split at hj
    · rename_i he; subst he
      obtain ⟨l2, hl2, hw, hk⟩ := hR.maps j x hj
      rw [hl] at hl2; cases hl2
      exact ⟨l, hl', hheap.trans hw, hk⟩
    · obtain ⟨lj, hlj, hw, hk⟩ := hR2.maps j x hj
      exact ⟨lj, hlj, hw, fun hk' => hk (.inl hk')⟩
  · rw [back_hm] at hi hj
    split at hi
    · rename_i h1
      subst h1
      rw [hl'] at hli; cases hli
      split at hj
      · rename_i h2; exact h2.symm
      · exact absurd he.symm (nm j bj lj hj hlj)
    · split at hj
      · rename_i h2; subst h2
        rw [hl'] at hlj; cases hlj
        exact absurd he (nm i bi li hi hli)
      · exact hR2.minj i j bi bj li lj hi hj hli hlj he

/-- Several numbers. -/
def outs (s : St) : List Nat → St
  | [] => s
  | k :: r => out (outs s r) k
theorem outs_h (s : St) : ∀ (ks : List Nat) (j : Nat), (outs s ks).h.get j = if j ∈ ks then none else s.h.get j
  | [], j => by simp [outs]
  | k :: r, j => by
    unfold outs
    rw [out_h, outs_h s r j]
    by_cases e : j = k
    · simp [e]
    · by_cases e2 : j ∈ r <;> simp [e, e2]
theorem outs_hm (s : St) : ∀ (ks : List Nat) (j : Nat), (outs s ks).hm.get j = if j ∈ ks then none else s.hm.get j
  | [], j => by simp [outs]
  | k :: r, j => by
    unfold outs
    rw [out_hm, outs_hm s r j]
    by_cases e : j = k
    · simp [e]
    · by_cases e2 : j ∈ r <;> simp [e, e2]
theorem outs_nx (s : St) : ∀ (ks : List Nat), (outs s ks).nx = s.nx ∧ (outs s ks).st = s.st
  | [] => ⟨rfl, rfl⟩
  | k :: r => outs_nx s r

structure Backs (s : St) (ks : List Nat) (s1 s' : St) : Prop where
  h : ∀ j, s'.h.get j = if j ∈ ks then s.h.get j else s1.h.get j
  hm : ∀ j, s'.hm.get j = if j ∈ ks then s.hm.get j else s1.hm.get j
  nx : s'.nx = s1.nx
  st : s'.st = s1.st
  no : ∀ j ∈ ks, s1.h.get j = none ∧ s1.hm.get j = none
  far : ∀ k ∈ ks, ∀ j, k ≠ 2 * (s1.nx + s1.st * j)

theorem frames {f : FuncId} {vs : List Value} : ∀ (ks : List Nat) {s : St} {Post : Value → St → Prop}, ks.Nodup → (∀ k ∈ ks, Mine s k ∨ MineM s k) → CallT P f vs (outs s ks) Post → CallT P f vs s fun v s' => ∃ s1, Post v s1 ∧ Backs s ks s1 s'
  | [], s, Post, _, _, h => h.mono fun v s' hp => ⟨s', hp, fun j => by simp, fun j => by simp, rfl, rfl, fun j hj => by simp at hj, fun j hj => by simp at hj⟩
  | k :: r, s, Post, hn, hm, h => by
    obtain ⟨hk, hr⟩ := List.nodup_cons.1 hn
    have h1 : CallT P f vs (outs s r) _ := frame1 (id := k) (by
      rcases hm k (by simp) with ⟨b, hb, hro⟩ | ⟨x, hx⟩
      · exact .inl ⟨b, by rw [outs_h, if_neg hk]; exact hb, hro⟩
      · exact .inr ⟨x, by rw [outs_hm, if_neg hk]; exact hx⟩) h
    refine (frames r hr (fun j hj => hm j (by simp [hj])) h1).mono ?_
    rintro v s' ⟨s2, ⟨s1, hp, hb⟩, hbs⟩
    have heq := hb.eq
    subst heq
    refine ⟨s1, hp, fun j => ?_, fun j => ?_, hbs.nx, hbs.st, fun j hj => ?_, fun j hj => ?_⟩
    · rw [hbs.h, back_h, outs_h]
      by_cases e : j = k
      · subst e; simp [hk]
      · by_cases e2 : j ∈ r <;> simp [e, e2]
    · rw [hbs.hm, back_hm, outs_hm]
      by_cases e : j = k
      · subst e; simp [hk]
      · by_cases e2 : j ∈ r <;> simp [e, e2]
    · rcases List.mem_cons.1 hj with rfl | hj
      · exact ⟨hb.noH, hb.noM⟩
      · have := hbs.no j hj
        have hjk : j ≠ k := fun e => hk (e ▸ hj)
        rw [back_h, back_hm, if_neg hjk, if_neg hjk] at this
        exact this
    · rcases List.mem_cons.1 hj with rfl | hj
      · exact hb.far
      · exact hbs.far j hj
end Go.PE
set_option linter.unusedVariables false
set_option linter.unusedSimpArgs false
/-! What a function does, in values without memory. -/
namespace Go.PE
open Go Go.RowKit Go.AE
variable {P : Program} {T : Tabs}

theorem Own.mono {sb sb' : St} {nx nx' : Nat} {μ μ' : Mu} {s s' : St} {k? : Option Nat} {p : PO} (hg : Kept sb sb') (hl : Later nx μ nx' μ') (hs : ∀ k, k? = some k → p.mine = true → s'.h.get k = s.h.get k ∧ s'.hm.get k = s.hm.get k) (h : Own sb nx μ s k? p) : Own sb' nx' μ' s' k? p := by
  cases p with
  | obj cells =>
    obtain ⟨k, b, h1, h2, h3, h4, h5, h6⟩ := h
    exact ⟨k, b, h1, (hs k h1 rfl).1.trans h2, h3, h4, h5, h6.mono hg hl⟩
  | row e sz l =>
    obtain ⟨h0, h⟩ := h
    refine ⟨h0, ?_⟩
    rcases h with h | ⟨k, b, h1, h2, h3, h4, h5, h6⟩
    · exact .inl h
    · exact .inr ⟨k, b, h1, (hs k h1 rfl).1.trans h2, h3, h4, h5, h6.mono hg hl⟩
  | froz sz l =>
    obtain ⟨h0, h⟩ := h
    refine ⟨h0, ?_⟩
    rcases h with h | ⟨k, b, h1, h2, h3, h4, h6⟩
    · exact .inl h
    · exact .inr ⟨k, b, h1, hg _ _ h2, h3, h4, h6.mono hg hl⟩
  | map es n =>
    obtain ⟨k, h1, h2⟩ := h
    exact ⟨k, h1, (hs k h1 rfl).2.trans h2⟩
/-- What is owned lies there. -/
theorem Own.mine {sb : St} {nx : Nat} {μ : Mu} {s : St} {k : Nat} {p : PO} (h : Own sb nx μ s (some k) p) (hm : p.mine = true) : Mine s k ∨ MineM s k := by
  cases p with
  | obj cells => obtain ⟨k, b, h1, h2, h3, h4, h5, h6⟩ := h; cases h1; exact .inl ⟨b, h2, h3⟩
  | row e sz l =>
    rcases h.2 with ⟨h, _⟩ | ⟨k, b, h1, h2, h3, h4, h5, h6⟩
    · cases h
    · cases h1; exact .inl ⟨b, h2, h3⟩
  | froz sz l => cases hm
  | map es n => obtain ⟨k, h1, h2⟩ := h; cases h1; exact .inr ⟨_, h2⟩
theorem Own.froz_at {sb : St} {nx : Nat} {μ : Mu} {s : St} {k : Nat} {p : PO} (h : Own sb nx μ s (some k) p) (hm : p.mine = false) : ∃ b, sb.h.get k = some b := by
  cases p with
  | froz sz l =>
    rcases h.2 with ⟨h, _⟩ | ⟨k, b, h1, h2, _⟩
    · cases h
    · cases h1; exact ⟨b, h2⟩
  | _ => cases hm

/-- What holds behind, of what held ahead. -/
structure Fin (T : Tabs) (μ : Mu) (σ : PM) (s : St) (μ' : Mu) (σ' : PM) (s' : St) : Prop where
  later : Later σ.nx μ σ'.nx μ'
  kept : Kept (base μ σ.o s) (base μ' σ'.o s')
  rel : RelP T μ' σ' s'
  dom : ∀ id p, look σ'.o id = some p → id < σ.nx → ∃ q, look σ.o id = some q
theorem Fin.refl {μ : Mu} {σ : PM} {s : St} (h : RelP T μ σ s) : Fin T μ σ s μ σ s := ⟨Later.refl _ _, Kept.refl _, h, fun id p h _ => ⟨p, h⟩⟩
theorem Fin.trans {μ μ' μ'' : Mu} {σ σ' σ'' : PM} {s s' s'' : St} (h : Fin T μ σ s μ' σ' s') (k : Fin T μ' σ' s' μ'' σ'' s'') : Fin T μ σ s μ'' σ'' s'' :=
  ⟨h.later.trans k.later, h.kept.trans k.kept, k.rel, fun id p h1 h2 => let ⟨q, hq⟩ := k.dom id p h1 (Nat.lt_of_lt_of_le h2 h.later.le); h.dom id q hq h2⟩

def PSpec (P : Program) (T : Tabs) (f : FuncId) (args : List PV) (σ : PM) (Q : PV → PM → Prop) : Prop :=
  ∀ μ s vs, RelP T μ σ s → VPs (base μ σ.o s) σ.nx μ args vs → CallT P f vs s fun v s' => ∃ μ' r σ', Q r σ' ∧ Fin T μ σ s μ' σ' s' ∧ VP (base μ' σ'.o s') σ'.nx μ' r v
theorem PSpec.mono {f : FuncId} {args : List PV} {σ : PM} {Q Q' : PV → PM → Prop} (h : PSpec P T f args σ Q) (hq : ∀ r σ', Q r σ' → Q' r σ') : PSpec P T f args σ Q' :=
  fun μ s vs hR hv => (h μ s vs hR hv).mono fun v s' ⟨μ', r, σ', h1, h2, h3⟩ => ⟨μ', r, σ', hq _ _ h1, h2, h3⟩

def lefts (o : List (Nat × PO)) : List Nat → List (Nat × PO)
  | [] => o
  | k :: r => gone (lefts o r) k
theorem look_lefts (o : List (Nat × PO)) : ∀ (ks : List Nat) (j : Nat), look (lefts o ks) j = if j ∈ ks then none else look o j
  | [], j => by simp [lefts]
  | k :: r, j => by
    unfold lefts
    rw [look_gone, look_lefts o r j]
    by_cases e : j = k
    · simp [e]
    · by_cases e2 : j ∈ r <;> simp [e, e2]
theorem look_append : ∀ (a b : List (Nat × PO)) (i : Nat), look (a ++ b) i = match look a i with | some p => some p | none => look b i
  | [], b, i => rfl
  | (k, p) :: r, b, i => by
    simp only [List.cons_append, look]
    by_cases e : i = k
    · simp [e]
    · simp only [e, if_false]; exact look_append r b i
def ddup : List Nat → List Nat
  | [] => []
  | k :: r => if k ∈ r then ddup r else k :: ddup r
theorem mem_ddup : ∀ (l : List Nat) (j : Nat), j ∈ ddup l ↔ j ∈ l
  | [], j => by simp [ddup]
  | k :: r, j => by
    unfold ddup
    split
    · rename_i h; rw [mem_ddup r j]; constructor
      · exact fun h => by simp [h]
      · intro h'; rcases List.mem_cons.1 h' with rfl | h'; exact h; exact h'
    · simp [mem_ddup r j]
theorem nodup_ddup : ∀ (l : List Nat), (ddup l).Nodup
  | [] => by simp [ddup]
  | k :: r => by
    unfold ddup
    split
    · exact nodup_ddup r
    · rename_i h
      rw [List.nodup_cons]
      exact ⟨by rw [mem_ddup]; exact h, nodup_ddup r⟩

theorem PSpec.call {f : FuncId} {args : List PV} {σ σc : PM} {Q : PV → PM → Prop} (h : PSpec P T f args σc Q) (hn : σc.nx = σ.nx) (hs : ∀ id p, look σc.o id = some p → look σ.o id = some p) :
    PSpec P T f args σ fun r σ'' => ∃ σ', Q r σ' ∧ σ'' = ⟨σ'.o ++ lefts σ.o (σc.o.map (·.1)), σ'.nx⟩ := by
  intro μ s vs hR hv
  have hck : ∀ id, id ∈ σc.o.map (·.1) → ∃ p, look σc.o id = some p := by
    intro id
    generalize σc.o = o
    intro hi
    induction o with
    | nil => simp at hi
    | cons x o ih =>
      obtain ⟨k, p⟩ := x
      unfold look
      by_cases e : id = k
      · exact ⟨p, by simp [e]⟩
      · rw [if_neg e]
        refine ih ?_
        simp only [List.map_cons, List.mem_cons] at hi
        rcases hi with hi | hi
        · exact absurd hi e
        · exact hi
  generalize hrest : lefts σ.o (σc.o.map (·.1)) = rest
  have hlr : ∀ id, look rest id = if id ∈ σc.o.map (·.1) then none else look σ.o id := fun id => by rw [← hrest]; exact look_lefts _ _ _
  have hrs : ∀ {id p}, look rest id = some p → look σ.o id = some p ∧ id ∉ σc.o.map (·.1) := by
    intro id p h
    rw [hlr] at h
    split at h
    · cases h
    · rename_i hh; exact ⟨h, hh⟩
  let ks := ddup (owned rest μ)
  have hks : ∀ k, k ∈ ks ↔ ∃ id p, look rest id = some p ∧ p.mine = true ∧ μ id = some k := fun k => by rw [mem_ddup, mem_owned]
  have hmine : ∀ k ∈ ks, Mine s k ∨ MineM s k := by
    intro k hk
    obtain ⟨id, p, h1, h2, h3⟩ := (hks k).1 hk
    have := hR.own id p (hrs h1).1
    rw [h3] at this
    exact this.mine h2
  -- the callee's numbers lie elsewhere
  have hcn : ∀ id p k, look σc.o id = some p → μ id = some k → k ∉ ks := by
    intro id p k h1 h2 hk
    obtain ⟨id', p', h3, h4, h5⟩ := (hks k).1 hk
    have := hR.inj id' id p' p k (hrs h3).1 (hs id p h1) h4 h5 h2
    exact (hrs h3).2 (this ▸ look_key h1)
  have hown : ∀ k, k ∈ owned σ.o μ ↔ k ∈ owned σc.o μ ∨ k ∈ ks := by
    intro k
    rw [mem_owned, mem_owned, hks]
    constructor
    · rintro ⟨id, p, h1, h2, h3⟩
      by_cases hc : id ∈ σc.o.map (·.1)
      · obtain ⟨q, hq⟩ := hck id hc
        have := hs id q hq
        rw [h1] at this; cases this
        exact .inl ⟨id, p, hq, h2, h3⟩
      · exact .inr ⟨id, p, by rw [hlr, if_neg hc]; exact h1, h2, h3⟩
    · rintro (⟨id, p, h1, h2, h3⟩ | ⟨id, p, h1, h2, h3⟩)
      · exact ⟨id, p, hs id p h1, h2, h3⟩
      · exact ⟨id, p, (hrs h1).1, h2, h3⟩
  have hbase : ∀ k, (base μ σc.o (outs s ks)).h.get k = (base μ σ.o s).h.get k := by
    intro k
    rw [base_get, base_get, outs_h]
    have := hown k
    by_cases h1 : k ∈ owned σc.o μ
    · rw [if_pos h1, if_pos (this.2 (.inl h1))]
    · rw [if_neg h1]
      by_cases h2 : k ∈ ks
      · rw [if_pos h2, if_pos (this.2 (.inr h2))]
      · rw [if_neg h2, if_neg (fun hh => (this.1 hh).elim h1 h2)]
  have hk1 : Kept (base μ σ.o s) (base μ σc.o (outs s ks)) := fun k b hb => by rw [hbase]; exact hb
  have hnx := outs_nx s ks
  have hRc : RelP T μ σc (outs s ks) := by
    refine ⟨⟨by rw [hnx.2]; exact hR.wf.pos, fun k => ?_⟩, fun id p hp => ?_, fun i j p q k hi hj hm h1 h2 => hR.inj i j p q k (hs i p hi) (hs j q hj) hm h1 h2, fun i p k hi hk j => ?_, fun id p hp => by rw [hn]; exact hR.lt id p (hs id p hp), fun g l hg => ?_⟩
    · rw [hnx.1, hnx.2, outs_h]
      split
      · rfl
      · exact hR.wf.free k
    · have h0 := hR.own id p (hs id p hp)
      refine h0.mono hk1 (by rw [hn]; exact Later.refl _ _) fun k hk hm => ?_
      have := hcn id p k hp hk
      exact ⟨by rw [outs_h, if_neg this], by rw [outs_hm, if_neg this]⟩
    · rw [hnx.1, hnx.2]; exact hR.apart i p k (hs i p hi) hk j
    · obtain ⟨b, h1, h2, h3⟩ := hR.tabs g l hg
      exact ⟨b, hk1 _ _ h1, h2, h3⟩
  have hc := h μ (outs s ks) vs hRc (hv.mono hk1 (by rw [hn]; exact Later.refl _ _))
  refine (frames ks (nodup_ddup _) hmine hc).mono ?_
  rintro v s' ⟨s1, ⟨μ', r, σ', hq, hF, hvp⟩, hB⟩
  have hmu : ∀ id, id < σ.nx → μ' id = μ id := fun id hi => hF.later.mu id (by rw [hn]; exact hi)
  have hle : σ.nx ≤ σ'.nx := by have := hF.later.le; rw [hn] at this; exact this
  have hla : Later σ.nx μ σ'.nx μ' := ⟨hle, hmu⟩
  have hrl : ∀ {id p}, look rest id = some p → id < σ.nx := fun h => hR.lt _ _ (hrs h).1
  have hlk : ∀ id, look (σ'.o ++ rest) id = match look σ'.o id with | some p => some p | none => look rest id := fun id => look_append _ _ _
  -- what lies in the callee's last state does not lie where the rest lies
  have hno : ∀ k, k ∈ ks → ∀ id p, look σ'.o id = some p → μ' id ≠ some k := by
    intro k hk id p hp hm
    have h0 := hF.rel.own id p hp
    rw [hm] at h0
    have hn0 := hB.no k hk
    cases hpm : p.mine with
    | true =>
      rcases h0.mine hpm with ⟨b, hb, _⟩ | ⟨x, hx⟩
      · rw [hn0.1] at hb; cases hb
      · rw [hn0.2] at hx; cases hx
    | false =>
      obtain ⟨b, hb⟩ := h0.froz_at hpm
      have := (base_some hb).1
      rw [hn0.1] at this; cases this
  have hk2 : Kept (base μ' σ'.o s1) (base μ' (σ'.o ++ rest) s') := by
    intro k b hb
    obtain ⟨h1, h2⟩ := base_some hb
    have hkk : k ∉ ks := fun hk => by rw [(hB.no k hk).1] at h1; cases h1
    rw [base_get, if_neg, hB.h, if_neg hkk]
    · exact h1
    · intro hk
      obtain ⟨id, p, h3, h4, h5⟩ := mem_owned.1 hk
      rw [hlk] at h3
      cases hl : look σ'.o id with
      | some q =>
        rw [hl] at h3; cases h3
        exact h2 (mem_owned.2 ⟨id, p, hl, h4, h5⟩)
      | none =>
        rw [hl] at h3
        rw [hmu id (hrl h3)] at h5
        exact hkk ((hks k).2 ⟨id, p, h3, h4, h5⟩)
  have hk3 : Kept (base μ σ.o s) (base μ' (σ'.o ++ rest) s') := (hk1.trans hF.kept).trans hk2
  have hwf' : Wf s' := by
    refine ⟨by rw [hB.st]; exact hF.rel.wf.pos, fun k => ?_⟩
    rw [hB.nx, hB.st, hB.h]
    split
    · rename_i hk; exact absurd rfl (hB.far _ hk k)
    · exact hF.rel.wf.free k
  refine ⟨μ', r, ⟨σ'.o ++ rest, σ'.nx⟩, ⟨σ', hq, rfl⟩, ⟨hla, hk3, ⟨hwf', fun id p hp => ?_, ?_, ?_, fun id p hp => ?_, fun g l hg => ?_⟩, fun id p hp hi => ?_⟩, hvp.mono hk2 (Later.refl _ _)⟩
  · simp only [hlk] at hp
    cases hl : look σ'.o id with
    | some q =>
      rw [hl] at hp; cases hp
      refine (hF.rel.own id p hl).mono hk2 (Later.refl _ _) fun k hk hm => ?_
      have hkk : k ∉ ks := fun h => hno k h id p hl hk
      exact ⟨by rw [hB.h, if_neg hkk], by rw [hB.hm, if_neg hkk]⟩
    | none =>
      rw [hl] at hp
      have hp : look rest id = some p := hp
      have h0 := (hR.own id p (hrs hp).1)
      rw [show (μ' id) = μ id from hmu id (hrl hp)]
      refine h0.mono hk3 hla fun k hk hm => ?_
      have hkk : k ∈ ks := (hks k).2 ⟨id, p, hp, hm, hk⟩
      exact ⟨by rw [hB.h, if_pos hkk], by rw [hB.hm, if_pos hkk]⟩
  · intro i j p q k hi hj hm h1 h2
    simp only [hlk] at hi hj
    cases hli : look σ'.o i with
    | some p' =>
      rw [hli] at hi; cases hi
      cases hlj : look σ'.o j with
      | some q' => exact hF.rel.inj i j p q' k hli hlj hm h1 h2
      | none =>
        rw [hlj] at hj
        have hj : look rest j = some q := hj
        rw [hmu j (hrl hj)] at h2
        cases hqm : q.mine with
        | true => exact absurd h1 (hno k ((hks k).2 ⟨j, q, hj, hqm, h2⟩) i p hli)
        | false =>
          exfalso
          have h0 := hR.own j q (hrs hj).1
          rw [h2] at h0
          obtain ⟨b, hb⟩ := h0.froz_at hqm
          have := (base_some ((hk1.trans hF.kept) _ _ hb)).2
          exact this (mem_owned.2 ⟨i, p, hli, hm, h1⟩)
    | none =>
      rw [hli] at hi
      have hi : look rest i = some p := hi
      rw [hmu i (hrl hi)] at h1
      have hkk : k ∈ ks := (hks k).2 ⟨i, p, hi, hm, h1⟩
      cases hlj : look σ'.o j with
      | some q' => exact absurd h2 (hno k hkk j q' hlj)
      | none =>
        rw [hlj] at hj
        have hj : look rest j = some q := hj
        rw [hmu j (hrl hj)] at h2
        exact hR.inj i j p q k (hrs hi).1 (hrs hj).1 hm h1 h2
  · intro i p k hi hk j
    simp only [hlk] at hi
    show k ≠ 2 * (s'.nx + s'.st * j)
    rw [hB.nx, hB.st]
    cases hli : look σ'.o i with
    | some p' => exact hF.rel.apart i p' k hli hk j
    | none =>
      rw [hli] at hi
      have hi : look rest i = some p := hi
      have hk0 := hk
      rw [hmu i (hrl hi)] at hk
      cases hpm : p.mine with
      | true => exact hB.far k ((hks k).2 ⟨i, p, hi, hpm, hk⟩) j
      | false =>
        have h0 := hR.own i p (hrs hi).1
        rw [hk] at h0
        obtain ⟨b, hb⟩ := h0.froz_at hpm
        have := (base_some (hk3 _ _ hb)).1
        intro he
        have hf := hwf'.free j
        rw [hB.nx, hB.st, ← he, this] at hf; cases hf
  · simp only [hlk] at hp
    cases hl : look σ'.o id with
    | some q => exact hF.rel.lt id q hl
    | none =>
      rw [hl] at hp
      exact Nat.lt_of_lt_of_le (hrl hp) hle
  · obtain ⟨b, h1, h2, h3⟩ := hR.tabs g l hg
    exact ⟨b, hk3 _ _ h1, h2, h3⟩
  · simp only [hlk] at hp
    cases hl : look σ'.o id with
    | some q =>
      obtain ⟨q', hq'⟩ := hF.dom id q hl (by rw [hn]; exact hi)
      exact ⟨q', hs _ _ hq'⟩
    | none =>
      rw [hl] at hp
      exact ⟨p, (hrs hp).1⟩
end Go.PE
set_option linter.unusedVariables false
set_option linter.unusedSimpArgs false
/-! How what is owned changes. -/
namespace Go.PE
open Go Go.RowKit Go.AE
variable {P : Program} {T : Tabs} {μ : Mu} {σ : PM} {s s' : St}

def muSet (μ : Mu) (id : Nat) (k : Option Nat) : Mu := fun j => if j = id then k else μ j
theorem muSet_later (μ : Mu) (n : Nat) (k : Option Nat) : Later n μ (n + 1) (muSet μ n k) := ⟨by omega, fun id h => by unfold muSet; rw [if_neg (by omega)]⟩

/-- A new number, for what was just made. -/
theorem new_ok (hR : RelP T μ σ s) {p : PO} (hs : ∀ k, k ≠ 2 * s.nx → s'.h.get k = s.h.get k) (hsm : ∀ k, k ≠ 2 * s.nx → s'.hm.get k = s.hm.get k) (hnx : s'.nx = s.nx + s.st) (hst : s'.st = s.st) (hp : p.mine = true) (hown : Own (base μ σ.o s) σ.nx μ s' (some (2 * s.nx)) p) :
    Fin T μ σ s (muSet μ σ.nx (some (2 * s.nx))) ⟨(σ.nx, p) :: σ.o, σ.nx + 1⟩ s' := by
  have hpos := hR.wf.pos
  have hl := muSet_later μ σ.nx (some (2 * s.nx))
  have hne : ∀ id q, look σ.o id = some q → id ≠ σ.nx := fun id q h => by have := hR.lt id q h; omega
  have hold : ∀ id q k, look σ.o id = some q → μ id = some k → k ≠ 2 * s.nx := fun id q k h1 h2 => by simpa using hR.apart id q k h1 h2 0
  have hlk : ∀ id, look ((σ.nx, p) :: σ.o) id = if id = σ.nx then some p else look σ.o id := fun id => rfl
  have hk : Kept (base μ σ.o s) (base (muSet μ σ.nx (some (2 * s.nx))) ((σ.nx, p) :: σ.o) s') := by
    intro k b hb
    obtain ⟨h1, h2⟩ := base_some hb
    have hkn : k ≠ 2 * s.nx := by
      rintro rfl
      have := hR.wf.free 0
      simp at this
      rw [this] at h1; cases h1
    rw [base_get, if_neg, hs k hkn]
    · exact h1
    · intro hm
      obtain ⟨id, q, h3, h4, h5⟩ := mem_owned.1 hm
      rw [hlk] at h3
      unfold muSet at h5
      split at h3
      · rename_i e
        rw [if_pos e] at h5
        exact hkn (Option.some.inj h5).symm
      · rename_i e
        rw [if_neg e] at h5
        exact h2 (mem_owned.2 ⟨id, q, h3, h4, h5⟩)
  have hwf : Wf s' := by
    refine ⟨by rw [hst]; exact hpos, fun k => ?_⟩
    rw [hnx, hst, hs _ (by omega)]
    have := hR.wf.free (k + 1)
    rw [Nat.mul_succ] at this
    rw [show s.nx + s.st + s.st * k = s.nx + (s.st * k + s.st) from by omega]
    exact this
  refine ⟨hl, hk, ⟨hwf, fun id q hq => ?_, fun i j q r k hi hj hm h1 h2 => ?_, fun i q k hi hk' j => ?_, fun id q hq => ?_, fun g l hg => ?_⟩, fun id q hq hi => ?_⟩
  · simp only [hlk] at hq
    split at hq
    · rename_i e
      cases hq
      rw [show muSet μ σ.nx (some (2 * s.nx)) id = some (2 * s.nx) from if_pos e]
      exact hown.mono hk hl fun k _ _ => ⟨rfl, rfl⟩
    · rename_i e
      rw [show muSet μ σ.nx (some (2 * s.nx)) id = μ id from if_neg e]
      refine (hR.own id q hq).mono hk hl fun k hk' _ => ?_
      have := hold id q k hq hk'
      exact ⟨hs k this, hsm k this⟩
  · simp only [hlk] at hi hj
    unfold muSet at h1 h2
    split at hi
    · rename_i e1
      split at hj
      · rename_i e2; rw [e1, e2]
      · rename_i e2
        rw [if_pos e1] at h1
        rw [if_neg e2] at h2
        cases h1
        exact absurd rfl (hold j r _ hj h2)
    · rename_i e1
      rw [if_neg e1] at h1
      split at hj
      · rename_i e2
        rw [if_pos e2] at h2
        cases h2
        exact absurd rfl (hold i q _ hi h1)
      · rename_i e2
        rw [if_neg e2] at h2
        exact hR.inj i j q r k hi hj hm h1 h2
  · simp only [hlk] at hi
    unfold muSet at hk'
    show k ≠ 2 * (s'.nx + s'.st * j)
    rw [hnx, hst]
    split at hi
    · rename_i e
      rw [if_pos e] at hk'
      cases hk'
      omega
    · rename_i e
      rw [if_neg e] at hk'
      have := hR.apart i q k hi hk' (j + 1)
      rw [Nat.mul_succ] at this
      omega
  · simp only [hlk] at hq
    split at hq
    · rename_i e; show id < σ.nx + 1; omega
    · have := hR.lt id q hq; show id < σ.nx + 1; omega
  · obtain ⟨b, h1, h2⟩ := hR.tabs g l hg
    exact ⟨b, hk _ _ h1, h2⟩
  · simp only [hlk] at hq
    rw [if_neg (by omega)] at hq
    exact ⟨q, hq⟩

/-- A row that is nil. -/
theorem newNil_ok (hR : RelP T μ σ s) (e : TypeId) (sz : Nat) : Fin T μ σ s (muSet μ σ.nx none) ⟨(σ.nx, .row e sz []) :: σ.o, σ.nx + 1⟩ s := by
  have hl := muSet_later μ σ.nx none
  have hlk : ∀ id, look ((σ.nx, PO.row e sz []) :: σ.o) id = if id = σ.nx then some (.row e sz []) else look σ.o id := fun id => rfl
  have hk : Kept (base μ σ.o s) (base (muSet μ σ.nx none) ((σ.nx, .row e sz []) :: σ.o) s) := by
    intro k b hb
    obtain ⟨h1, h2⟩ := base_some hb
    rw [base_get, if_neg]
    · exact h1
    · intro hm
      obtain ⟨id, q, h3, h4, h5⟩ := mem_owned.1 hm
      rw [hlk] at h3
      unfold muSet at h5
      split at h3
      · rename_i e; rw [if_pos e] at h5; cases h5
      · rename_i e; rw [if_neg e] at h5; exact h2 (mem_owned.2 ⟨id, q, h3, h4, h5⟩)
  refine ⟨hl, hk, ⟨hR.wf, fun id q hq => ?_, fun i j q r k hi hj hm h1 h2 => ?_, fun i q k hi hk' j => ?_, fun id q hq => ?_, fun g l hg => ?_⟩, fun id q hq hi => ?_⟩
  · simp only [hlk] at hq
    split at hq
    · rename_i e
      cases hq
      rw [show muSet μ σ.nx none id = none from if_pos e]
      exact ⟨fun x hx => by simp at hx, .inl ⟨rfl, rfl⟩⟩
    · rename_i e
      rw [show muSet μ σ.nx none id = μ id from if_neg e]
      exact (hR.own id q hq).mono hk hl fun k hk' _ => ⟨rfl, rfl⟩
  · simp only [hlk] at hi hj
    unfold muSet at h1 h2
    split at hi
    · rename_i e; rw [if_pos e] at h1; cases h1
    · rename_i e1
      split at hj
      · rename_i e; rw [if_pos e] at h2; cases h2
      · rename_i e2
        rw [if_neg e1] at h1
        rw [if_neg e2] at h2
        exact hR.inj i j q r k hi hj hm h1 h2
  · simp only [hlk] at hi
    unfold muSet at hk'
    split at hi
    · rename_i e; rw [if_pos e] at hk'; cases hk'
    · rename_i e; rw [if_neg e] at hk'; exact hR.apart i q k hi hk' j
  · simp only [hlk] at hq
    split at hq
    · rename_i e; show id < σ.nx + 1; omega
    · have := hR.lt id q hq; show id < σ.nx + 1; omega
  · obtain ⟨b, h1, h2⟩ := hR.tabs g l hg
    exact ⟨b, hk _ _ h1, h2⟩
  · simp only [hlk] at hq
    rw [if_neg (by omega)] at hq
    exact ⟨q, hq⟩

/-- What was made and is nobody's to write. -/
theorem lit_ok (hR : RelP T μ σ s) (b : Blk) : Fin T μ σ s μ σ (s.with b) ∧ (base μ σ.o (s.with b)).h.get (2 * s.nx) = some b := by
  have hw := with_wf b hR.wf
  have hno : 2 * s.nx ∉ owned σ.o μ := by
    intro hm
    obtain ⟨id, q, h3, h4, h5⟩ := mem_owned.1 hm
    have := hR.apart id q _ h3 h5 0
    simp at this
  have hk : Kept (base μ σ.o s) (base μ σ.o (s.with b)) := by
    intro k x hx
    obtain ⟨h1, h2⟩ := base_some hx
    rw [base_get, if_neg h2]
    exact with_old b hR.wf h1
  refine ⟨⟨Later.refl _ _, hk, ⟨hw, fun id q hq => ?_, hR.inj, fun i q k hi hk' j => ?_, hR.lt, fun g l hg => ?_⟩, fun id q hq _ => ⟨q, hq⟩⟩, ?_⟩
  · refine (hR.own id q hq).mono hk (Later.refl _ _) fun k hk' _ => ⟨?_, (show (s.with b).hm.get k = s.hm.get k from rfl)⟩
    rw [with_get, if_neg]
    simpa using hR.apart id q k hq hk' 0
  · have := hR.apart i q k hi hk' (j + 1)
    rw [Nat.mul_succ] at this
    show k ≠ 2 * (s.nx + s.st + s.st * j)
    omega
  · obtain ⟨b, h1, h2⟩ := hR.tabs g l hg
    exact ⟨b, hk _ _ h1, h2⟩
  · rw [base_get, if_neg hno]; exact with_new s b

/-- A number is given up. -/
theorem leave_ok (hR : RelP T μ σ s) (id : Nat) : Fin T μ σ s μ ⟨gone σ.o id, σ.nx⟩ s := by
  have hlk : ∀ j q, look (gone σ.o id) j = some q → look σ.o j = some q := fun j q h => by
    rw [look_gone] at h
    split at h
    · cases h
    · exact h
  have hk : Kept (base μ σ.o s) (base μ (gone σ.o id) s) := by
    intro k b hb
    obtain ⟨h1, h2⟩ := base_some hb
    rw [base_get, if_neg]
    · exact h1
    · intro hm
      obtain ⟨j, q, h3, h4, h5⟩ := mem_owned.1 hm
      exact h2 (mem_owned.2 ⟨j, q, hlk j q h3, h4, h5⟩)
  refine ⟨Later.refl _ _, hk, ⟨hR.wf, fun j q hq => ?_, fun i j q r k hi hj => hR.inj i j q r k (hlk _ _ hi) (hlk _ _ hj), fun i q k hi => hR.apart i q k (hlk _ _ hi), fun j q hq => hR.lt j q (hlk _ _ hq), fun g l hg => ?_⟩, fun j q hq _ => ⟨q, hlk _ _ hq⟩⟩
  · exact (hR.own j q (hlk _ _ hq)).mono hk (Later.refl _ _) fun k _ _ => ⟨rfl, rfl⟩
  · obtain ⟨b, h1, h2⟩ := hR.tabs g l hg
    exact ⟨b, hk _ _ h1, h2⟩
/-- A number is given up, and its block with it. -/
theorem kill_ok (hR : RelP T μ σ s) {id k : Nat} {p : PO} (hp : look σ.o id = some p) (hm : p.mine = true) (hk0 : μ id = some k) : Fin T μ σ s μ ⟨gone σ.o id, σ.nx⟩ (s.without k) := by
  have hlk : ∀ j q, look (gone σ.o id) j = some q → look σ.o j = some q ∧ j ≠ id := fun j q h => by
    rw [look_gone] at h
    split at h
    · cases h
    · rename_i e; exact ⟨h, e⟩
  have hk : Kept (base μ σ.o s) (base μ (gone σ.o id) (s.without k)) := by
    intro j b hb
    obtain ⟨h1, h2⟩ := base_some hb
    have hjk : j ≠ k := by rintro rfl; exact h2 (mem_owned.2 ⟨id, p, hp, hm, hk0⟩)
    rw [base_get, if_neg, without_get, if_neg hjk]
    · exact h1
    · intro hmm
      obtain ⟨i, q, h3, h4, h5⟩ := mem_owned.1 hmm
      exact h2 (mem_owned.2 ⟨i, q, (hlk i q h3).1, h4, h5⟩)
  refine ⟨Later.refl _ _, hk, ⟨without_wf k hR.wf, fun j q hq => ?_, fun i j q r k hi hj => hR.inj i j q r k (hlk _ _ hi).1 (hlk _ _ hj).1, fun i q k hi => hR.apart i q k (hlk _ _ hi).1, fun j q hq => hR.lt j q (hlk _ _ hq).1, fun g l hg => ?_⟩, fun j q hq _ => ⟨q, (hlk _ _ hq).1⟩⟩
  · refine (hR.own j q (hlk _ _ hq).1).mono hk (Later.refl _ _) fun k' hk' hm' => ⟨?_, (show (s.without k).hm.get k' = s.hm.get k' from rfl)⟩
    rw [without_get, if_neg]
    rintro rfl
    exact (hlk _ _ hq).2 (hR.inj id j p q _ hp (hlk _ _ hq).1 hm hk0 hk').symm
  · obtain ⟨b, h1, h2⟩ := hR.tabs g l hg
    exact ⟨b, hk _ _ h1, h2⟩
/-- Another content. -/
theorem put_ok (hR : RelP T μ σ s) {id k : Nat} {p p' : PO} (hp : look σ.o id = some p) (hm : p.mine = true) (hm' : p'.mine = true) (hk0 : μ id = some k) (hs : ∀ j, j ≠ k → s'.h.get j = s.h.get j) (hs0 : s.h.get k = none → s'.h.get k = none) (hsm : ∀ j, j ≠ k → s'.hm.get j = s.hm.get j) (hnx : s'.nx = s.nx) (hst : s'.st = s.st)
    (hown : Own (base μ σ.o s) σ.nx μ s' (some k) p') : Fin T μ σ s μ ⟨put σ.o id p', σ.nx⟩ s' := by
  have hlk : ∀ j, look (put σ.o id p') j = if j = id then some p' else look σ.o j := fun j => by rw [look_put, hp]; rfl
  have hk : Kept (base μ σ.o s) (base μ (put σ.o id p') s') := by
    intro j b hb
    obtain ⟨h1, h2⟩ := base_some hb
    have hjk : j ≠ k := by rintro rfl; exact h2 (mem_owned.2 ⟨id, p, hp, hm, hk0⟩)
    rw [base_get, if_neg, hs j hjk]
    · exact h1
    · intro hmm
      obtain ⟨i, q, h3, h4, h5⟩ := mem_owned.1 hmm
      rw [hlk] at h3
      split at h3
      · rename_i e; subst e; exact h2 (mem_owned.2 ⟨i, p, hp, hm, h5⟩)
      · exact h2 (mem_owned.2 ⟨i, q, h3, h4, h5⟩)
  have hold : ∀ j q, look (put σ.o id p') j = some q → ∃ r, look σ.o j = some r ∧ (q.mine = true → r.mine = true) := fun j q h => by
    rw [hlk] at h
    split at h
    · rename_i e; subst e; exact ⟨p, hp, fun _ => hm⟩
    · exact ⟨q, h, fun h => h⟩
  refine ⟨Later.refl _ _, hk, ⟨⟨by rw [hst]; exact hR.wf.pos, fun j => ?_⟩, fun j q hq => ?_, fun i j q r k hi hj hmm => ?_, fun i q k hi hk' j => ?_, fun j q hq => ?_, fun g l hg => ?_⟩, fun j q hq _ => ?_⟩
  · rw [hnx, hst]
    by_cases e : 2 * (s.nx + s.st * j) = k
    · have := hR.wf.free j
      rw [e] at this ⊢; exact hs0 this
    · rw [hs _ e]; exact hR.wf.free j
  · have hq' := hq
    simp only [hlk] at hq
    split at hq
    · rename_i e
      cases hq
      rw [e, hk0]
      exact hown.mono hk (Later.refl _ _) fun _ _ _ => ⟨rfl, rfl⟩
    · rename_i e
      refine (hR.own j q hq).mono hk (Later.refl _ _) fun k' hk' hm'' => ?_
      have : k' ≠ k := by rintro rfl; exact e (hR.inj id j p q _ hp hq hm hk0 hk').symm
      exact ⟨hs _ this, hsm _ this⟩
  · obtain ⟨r1, h1, h2⟩ := hold i q hi
    obtain ⟨r2, h3, h4⟩ := hold j r hj
    exact hR.inj i j r1 r2 k h1 h3 (h2 hmm)
  · obtain ⟨r1, h1, h2⟩ := hold i q hi
    show k ≠ 2 * (s'.nx + s'.st * j)
    rw [hnx, hst]
    exact hR.apart i r1 k h1 hk' j
  · obtain ⟨r1, h1, h2⟩ := hold j q hq
    exact hR.lt j r1 h1
  · obtain ⟨b, h1, h2⟩ := hR.tabs g l hg
    exact ⟨b, hk _ _ h1, h2⟩
  · obtain ⟨r1, h1, h2⟩ := hold j q hq
    exact ⟨r1, h1⟩
/-- A row that nobody writes any more. -/
theorem freeze_ok (hR : RelP T μ σ s) {id sz : Nat} {e : TypeId} {l : List PV} (hp : look σ.o id = some (.row e sz l)) : Fin T μ σ s μ ⟨put σ.o id (.froz sz l), σ.nx⟩ s := by
  have hlk : ∀ j, look (put σ.o id (.froz sz l)) j = if j = id then some (.froz sz l) else look σ.o j := fun j => by rw [look_put, hp]; rfl
  have hold : ∀ j q, look (put σ.o id (.froz sz l)) j = some q → ∃ r, look σ.o j = some r ∧ (q.mine = true → r.mine = true ∧ j ≠ id) := fun j q h => by
    rw [hlk] at h
    split at h
    · rename_i e; subst e; cases h; exact ⟨_, hp, fun h => by cases h⟩
    · rename_i e; exact ⟨q, h, fun h => ⟨h, e⟩⟩
  have hk : Kept (base μ σ.o s) (base μ (put σ.o id (.froz sz l)) s) := by
    intro j b hb
    obtain ⟨h1, h2⟩ := base_some hb
    rw [base_get, if_neg]
    · exact h1
    · intro hmm
      obtain ⟨i, q, h3, h4, h5⟩ := mem_owned.1 hmm
      obtain ⟨r, h6, h7⟩ := hold i q h3
      exact h2 (mem_owned.2 ⟨i, r, h6, (h7 h4).1, h5⟩)
  refine ⟨Later.refl _ _, hk, ⟨hR.wf, fun j q hq => ?_, fun i j q r k hi hj hmm => ?_, fun i q k hi hk' j => ?_, fun j q hq => ?_, fun g l hg => ?_⟩, fun j q hq _ => ?_⟩
  · simp only [hlk] at hq
    split at hq
    · rename_i e1
      cases hq
      subst e1
      obtain ⟨h0, h1⟩ := hR.own j _ hp
      refine ⟨h0, ?_⟩
      rcases h1 with h1 | ⟨k, b, h1, h2, h3, h4, h5, h6⟩
      · exact .inl h1
      · refine .inr ⟨k, b, h1, ?_, ?_, h4, h6.mono hk (Later.refl _ _)⟩
        · rw [base_get, if_neg]
          · exact h2
          · intro hmm
            obtain ⟨i, q, h7, h8, h9⟩ := mem_owned.1 hmm
            obtain ⟨r, q1, q2⟩ := hold i q h7
            exact (q2 h8).2 (hR.inj i j r _ k q1 hp (q2 h8).1 h9 h1)
        · cases hx : b.exact with
          | true => exact .inl rfl
          | false => exact .inr (h5 hx).1
    · exact (hR.own j q hq).mono hk (Later.refl _ _) fun k _ _ => ⟨rfl, rfl⟩
  · obtain ⟨r1, h1, h2⟩ := hold i q hi
    obtain ⟨r2, h3, h4⟩ := hold j r hj
    exact hR.inj i j r1 r2 k h1 h3 (h2 hmm).1
  · obtain ⟨r1, h1, h2⟩ := hold i q hi
    exact hR.apart i r1 k h1 hk' j
  · obtain ⟨r1, h1, h2⟩ := hold j q hq
    exact hR.lt j r1 h1
  · obtain ⟨b, h1, h2⟩ := hR.tabs g l hg
    exact ⟨b, hk _ _ h1, h2⟩
  · obtain ⟨r1, h1, h2⟩ := hold j q hq
    exact ⟨r1, h1⟩
end Go.PE
set_option linter.unusedVariables false
set_option linter.unusedSimpArgs false
/-! Operations: what is read and written. -/
namespace Go.PE
open Go Go.RowKit Go.AE
variable {P : Program} {T : Tabs} {μ : Mu} {σ : PM} {s s' : St} {sb : St} {nx : Nat}

/-- An operation that leaves all as it is; one that changes it. -/
abbrev bs (μ : Mu) (σ : PM) (s : St) : St := base μ σ.o s
def Res (T : Tabs) (μ : Mu) (σ : PM) (s : St) (r : PV) (σ' : PM) (v : Value) (s' : St) : Prop := ∃ μ', Fin T μ σ s μ' σ' s' ∧ VP (base μ' σ'.o s') σ'.nx μ' r v
theorem Res.same {r : PV} {v : Value} (hR : RelP T μ σ s) (h : VP (bs μ σ s) σ.nx μ r v) : Res T μ σ s r σ v s := ⟨μ, Fin.refl hR, h⟩

/-! cells -/
def CellsAt (sb : St) (nx : Nat) (μ : Mu) (b : Blk) (z : Nat) (l : List PV) : Prop := ∀ (i : Nat) p, l[i]? = some p → ∃ x, b.cell (z + i) = some x ∧ oneCell x = true ∧ VP sb nx μ p x
theorem CellsVP.at {b : Blk} {l : List PV} (h : CellsVP sb nx μ b l) : CellsAt sb nx μ b 0 l := fun i p hi => by rw [Nat.zero_add]; exact h i p hi
theorem CellsAt.drop {b : Blk} {z : Nat} {l : List PV} (h : CellsAt sb nx μ b z l) (n : Nat) : CellsAt sb nx μ b (z + n) (l.drop n) := fun i p hi => by
  rw [List.getElem?_drop] at hi
  have := h _ p hi
  rwa [show z + n + i = z + (n + i) from by omega]
theorem CellsAt.cells {b : Blk} : ∀ {l : List PV} {z : Nat}, CellsAt sb nx μ b z l → ∃ vs, b.cells z l.length = some vs ∧ VPs sb nx μ l vs ∧ vs.all oneCell = true
  | [], z, _ => ⟨[], rfl, VPs.nil, rfl⟩
  | p :: l, z, h => by
    obtain ⟨x, h1, h2, h3⟩ := h 0 p rfl
    have h' : CellsAt sb nx μ b (z + 1) l := fun i q hi => by
      have := h (i + 1) q (by simpa using hi)
      rwa [show z + (i + 1) = z + 1 + i from by omega] at this
    obtain ⟨vs, k1, k2, k3⟩ := CellsAt.cells h'
    refine ⟨x :: vs, ?_, VPs.cons h3 k2, by simp [h2, k3]⟩
    simp only [List.length_cons, Blk.cells]
    rw [Nat.add_zero] at h1
    rw [h1, k1]; rfl
theorem CellsAt.take {b : Blk} {z : Nat} {l : List PV} (h : CellsAt sb nx μ b z l) (n : Nat) : CellsAt sb nx μ b z (l.take n) := fun i p hi => by
  rw [List.getElem?_take] at hi
  split at hi
  · exact h i p hi
  · cases hi
theorem cellsAt_of {b : Blk} {z : Nat} {l : List PV} {vs : List Value} (h : b.cells z l.length = some vs) (h1 : vs.all oneCell = true) (h2 : ∀ (i : Nat) p x, l[i]? = some p → vs[i]? = some x → VP sb nx μ p x) : CellsAt sb nx μ b z l := by
  intro i p hi
  have hlen := cells_len b _ _ _ h
  have hlt : i < l.length := by
    rcases Nat.lt_or_ge i l.length with h' | h'
    · exact h'
    · rw [List.getElem?_eq_none h'] at hi; cases hi
  have hx := cells_at b _ _ _ h i hlt
  have hv : vs[i]? = some (vs[i]'(by omega)) := List.getElem?_eq_getElem (by omega)
  rw [hv] at hx
  exact ⟨_, hx, all_get h1 hv, h2 i p _ hi hv⟩

theorem flat_len {sz : Nat} : ∀ {l : List PV}, (∀ x ∈ l, x.cells.length = sz) → (flatP l).length = l.length * sz
  | [], _ => by simp [flatP]
  | p :: l, h => by
    have h1 := h p (by simp)
    have h2 := flat_len (sz := sz) (l := l) fun x hx => h x (by simp [hx])
    unfold flatP at h2 ⊢
    simp only [List.flatMap_cons, List.length_append, h1, h2, List.length_cons]
    rw [Nat.add_mul]; omega
theorem flat_get {sz : Nat} : ∀ {l : List PV}, (∀ x ∈ l, x.cells.length = sz) → ∀ (i j : Nat), j < sz → (flatP l)[i * sz + j]? = (l[i]?).bind fun e => e.cells[j]?
  | [], _, i, j, _ => by simp [flatP]
  | p :: l, h, 0, j, hj => by
    have h1 := h p (by simp)
    unfold flatP
    simp only [List.flatMap_cons, Nat.zero_mul, Nat.zero_add, List.getElem?_cons_zero, Option.bind_some]
    rw [List.getElem?_append_left (by omega)]
  | p :: l, h, i + 1, j, hj => by
    have h1 := h p (by simp)
    have h2 := flat_get (sz := sz) (l := l) (fun x hx => h x (by simp [hx])) i j hj
    unfold flatP at h2 ⊢
    simp only [List.flatMap_cons, List.getElem?_cons_succ]
    rw [List.getElem?_append_right (by rw [h1, Nat.add_mul]; omega), h1, show (i + 1) * sz + j - sz = i * sz + j from by rw [Nat.add_mul]; omega]
    exact h2
theorem flat_elem {sz : Nat} {l : List PV} (hf : ∀ x ∈ l, x.cells.length = sz) {b : Blk} {z : Nat} (h : CellsAt sb nx μ b z (flatP l)) {i : Nat} {e : PV} (hi : l[i]? = some e) : CellsAt sb nx μ b (z + i * sz) e.cells := by
  intro j p hj
  have he := hf e (List.mem_of_getElem? hi)
  have hlt : j < sz := by
    rcases Nat.lt_or_ge j e.cells.length with h' | h'
    · omega
    · rw [List.getElem?_eq_none h'] at hj; cases hj
  have := h (i * sz + j) p (by rw [flat_get hf i j hlt, hi]; exact hj)
  rwa [show z + (i * sz + j) = z + i * sz + j from by omega] at this

/-! reading -/
def pRead (P : Program) (t : TypeId) (cells : List PV) (off : Nat) : Option PV := (isAggT P t).bind fun g => match g with
  | false => cells[off]?
  | true => (sizeT P t).bind fun n => match Nat.ble (off + n) cells.length with
    | true => some (.agg ((cells.drop off).take n))
    | false => none
theorem read_ok {t : TypeId} {b : Blk} {k z off : Nat} {cells : List PV} {r : PV} (hb : s.h.get k = some b) (hc : CellsAt sb nx μ b z cells) (h : pRead P t cells off = some r) : ∃ v, eLoad P t (.pointer (some ⟨k, z + off, none⟩)) s = some (v, s) ∧ VP sb nx μ r v := by
  obtain ⟨g, hg, h⟩ := Option.bind_eq_some_iff.1 h
  unfold eLoad asPtr
  simp only [Option.bind_some, hg]
  cases g with
  | false =>
    obtain ⟨x, h1, h2, h3⟩ := hc off r h
    refine ⟨x, ?_, h3⟩
    simp only [St.load, hb, Option.bind_some, h1]
  | true =>
    simp only at h ⊢
    obtain ⟨n, hn, h⟩ := Option.bind_eq_some_iff.1 h
    split at h
    · rename_i hle
      have hle := Nat.le_of_ble_eq_true hle
      cases h
      obtain ⟨vs, h1, h2, h3⟩ := ((hc.drop off).take n).cells
      have hl : ((cells.drop off).take n).length = n := by rw [List.length_take, List.length_drop]; omega
      rw [hl] at h1
      refine ⟨.agg vs.toArray, ?_, .agg _ _ (by simpa using h2.1) (by simpa using h3) (by simpa using h2.2)⟩
      simp only [hn, Option.bind_some, St.loads, hb, h1]
    · cases h

/-- The cells that a pointer looks at. -/
def cellsOf (o : List (Nat × PO)) : PV → Option (List PV × Nat)
  | .ptr id off => match look o id with
    | some (.obj c) => some (c, off)
    | _ => none
  | .fp c off => some (c, off)
  | .rp id sz i off => match look o id with
    | some (.row _ sz' l) => if sz' = sz then (l[i]?).map fun e => (e.cells, off) else none
    | some (.froz sz' l) => if sz' = sz then (l[i]?).map fun e => (e.cells, off) else none
    | _ => none
  | _ => none
theorem cellsOf_ok (hR : RelP T μ σ s) {p : PV} {x : Value} (hx : VP (bs μ σ s) σ.nx μ p x) {c : List PV} {off : Nat} (h : cellsOf σ.o p = some (c, off)) :
    ∃ k z b, x = .pointer (some ⟨k, z + off, none⟩) ∧ s.h.get k = some b ∧ CellsAt (bs μ σ s) σ.nx μ b z c := by
  cases hx with
  | ptr id off' k hi hm =>
    simp only [cellsOf] at h
    split at h
    · rename_i c' hc'
      cases h
      have := hR.own id _ hc'
      rw [hm] at this
      obtain ⟨k', b, h1, h2, h3, h4, h5, h6⟩ := this
      cases h1
      exact ⟨k, 0, b, by rw [Nat.zero_add], h2, h6.at⟩
    · cases h
  | fp l off' k z b vs hb hl h1 h2 =>
    simp only [cellsOf] at h
    cases h
    exact ⟨k, z, b, rfl, (base_some hb).1, cellsAt_of hl h1 h2⟩
  | rp id sz i off' k hi hm =>
    simp only [cellsOf] at h
    split at h
    · rename_i e sz' l hl
      split at h
      · rename_i hsz
        subst hsz
        obtain ⟨el, h1, h2⟩ := Option.map_eq_some_iff.1 h
        cases h2
        have := hR.own id _ hl
        rw [hm] at this
        obtain ⟨h0, h3⟩ := this
        rcases h3 with ⟨h3, _⟩ | ⟨k', b, h3, h4, _, _, _, h5⟩
        · cases h3
        · cases h3
          have := flat_elem h0 h5.at h1
          rw [Nat.zero_add] at this
          exact ⟨k, _, b, rfl, h4, this⟩
      · cases h
    · rename_i sz' l hl
      split at h
      · rename_i hsz
        subst hsz
        obtain ⟨el, h1, h2⟩ := Option.map_eq_some_iff.1 h
        cases h2
        have := hR.own id _ hl
        rw [hm] at this
        obtain ⟨h0, h3⟩ := this
        rcases h3 with ⟨h3, _⟩ | ⟨k', b, h3, h4, _, _, h5⟩
        · cases h3
        · cases h3
          have := flat_elem h0 h5.at h1
          rw [Nat.zero_add] at this
          exact ⟨k, _, b, rfl, (base_some h4).1, this⟩
      · cases h
    · cases h
  | _ => simp [cellsOf] at h
def pLoad (P : Program) (o : List (Nat × PO)) (t : TypeId) (p : PV) : Option PV := (cellsOf o p).bind fun c => pRead P t c.1 c.2
theorem load_ok (hR : RelP T μ σ s) {p : PV} {x : Value} (hx : VP (bs μ σ s) σ.nx μ p x) {t : TypeId} {r : PV} (h : pLoad P σ.o t p = some r) : ∃ v, eLoad P t x s = some (v, s) ∧ VP (bs μ σ s) σ.nx μ r v := by
  obtain ⟨⟨c, off⟩, h1, h2⟩ := Option.bind_eq_some_iff.1 h
  obtain ⟨k, z, b, rfl, h3, h4⟩ := cellsOf_ok hR hx h1
  exact read_ok h3 h4 h2

/-! writing -/
def spl : List PV → Nat → List PV → List PV
  | c, _, [] => c
  | c, i, x :: xs => spl (c.set i x) (i + 1) xs
theorem spl_get : ∀ (xs c : List PV) (i j : Nat), i + xs.length ≤ c.length → (spl c i xs)[j]? = if i ≤ j ∧ j < i + xs.length then xs[j - i]? else c[j]?
  | [], c, i, j, _ => by simp [spl]; omega
  | x :: xs, c, i, j, h => by
    simp only [List.length_cons] at h
    simp only [spl]
    rw [spl_get xs _ (i + 1) j (by simp; omega)]
    by_cases e : j = i
    · subst e
      rw [if_neg (by omega), if_pos (by simp), List.getElem?_set]
      simp; omega
    · by_cases h2 : i + 1 ≤ j ∧ j < i + 1 + xs.length
      · rw [if_pos h2, if_pos (by simp only [List.length_cons]; omega)]
        rw [show j - i = (j - (i + 1)) + 1 from by omega]; simp
      · rw [if_neg h2, if_neg (by simp only [List.length_cons]; omega), List.getElem?_set, if_neg (by omega)]
theorem spl_len : ∀ (xs c : List PV) (i : Nat), (spl c i xs).length = c.length
  | [], c, i => rfl
  | x :: xs, c, i => by simp only [spl]; rw [spl_len xs]; simp
theorem blk_set {b : Blk} {off : Nat} {vs : List Value} (h : off + vs.length ≤ b.n) (j : Nat) : Blk.cell { b with t := setCells b.t off vs } j = if off ≤ j ∧ j < off + vs.length then vs[j - off]? else b.cell j := by
  unfold Blk.cell
  show (match Nat.blt j b.n with
    | false => none
    | true => match (setCells b.t off vs).get j with
      | some v => some v
      | none => b.z[Nat.mod j b.z.length]?) = _
  rw [get_setCells]
  by_cases e : off ≤ j ∧ j < off + vs.length
  · rw [if_pos e, if_pos e, show Nat.blt j b.n = true from by simpa [Nat.blt_eq] using (by omega : j < b.n)]
    have : j - off < vs.length := by omega
    rw [List.getElem?_eq_getElem this]
  · rw [if_neg e, if_neg e]
    cases Nat.blt j b.n with
    | false => rfl
    | true => cases b.t.get j <;> rfl
theorem stores_eq {k off : Nat} {b : Blk} {vs : List Value} (hb : s.h.get k = some b) (hro : b.ro = false) (hle : off + vs.length ≤ b.n) (h1 : vs.all oneCell = true) : s.stores ⟨k, off, none⟩ vs = some { s with h := s.h.set k (some { b with t := setCells b.t off vs }) } := by
  unfold St.stores
  simp only [hb, Option.bind_some, hro]
  rw [show Nat.ble (off + vs.length) b.n = true from by simpa [Nat.ble_eq] using hle]
  simp [ck, h1]

/-- A row's element, some of it another. -/
def pour (sz n off : Nat) (el x : PV) : PV := if n = sz then x else .agg (spl el.cells off x.cells)
def pStore (P : Program) (o : List (Nat × PO)) (t : TypeId) (p x : PV) : Option (List (Nat × PO)) := (sizeT P t).bind fun n => match Nat.beq x.cells.length n && x.cells.all PV.one with
  | false => none
  | true => match p with
    | .ptr id off => match look o id with
      | some (.obj c) => match Nat.ble (off + n) c.length with
        | true => some (put o id (.obj (spl c off x.cells)))
        | false => none
      | _ => none
    | .rp id sz i off => match look o id with
      | some (.row e sz' l) => if sz' = sz then (l[i]?).bind fun el => match Nat.ble (off + n) sz with
        | true => some (put o id (.row e sz (l.set i (pour sz n off el x))))
        | false => none
        else none
      | _ => none
    | _ => none
theorem pour_cells {sz n off : Nat} {el x : PV} (h1 : x.cells.length = n) (h2 : el.cells.length = sz) (h3 : off + n ≤ sz) : (pour sz n off el x).cells.length = sz ∧ ∀ j, (pour sz n off el x).cells[j]? = if off ≤ j ∧ j < off + n then x.cells[j - off]? else el.cells[j]? := by
  unfold pour
  split
  · rename_i e
    subst e
    have : off = 0 := by omega
    subst this
    refine ⟨h1, fun j => ?_⟩
    by_cases hj : 0 ≤ j ∧ j < 0 + n
    · rw [if_pos hj, Nat.sub_zero]
    · rw [if_neg hj, List.getElem?_eq_none (by omega), List.getElem?_eq_none (by omega)]
  · refine ⟨by show (spl el.cells off x.cells).length = sz; rw [spl_len, h2], fun j => ?_⟩
    show (spl el.cells off x.cells)[j]? = _
    rw [spl_get _ _ _ _ (by omega), h1]
theorem flat_set {sz : Nat} {l : List PV} (hf : ∀ x ∈ l, x.cells.length = sz) {i : Nat} {e : PV} (hi : i < l.length) (he : e.cells.length = sz) (m : Nat) : (flatP (l.set i e))[m]? = if i * sz ≤ m ∧ m < i * sz + sz then e.cells[m - i * sz]? else (flatP l)[m]? := by
  have hf' : ∀ x ∈ l.set i e, x.cells.length = sz := fun x hx => by
    rcases List.mem_or_eq_of_mem_set hx with h | h
    · exact hf x h
    · rw [h]; exact he
  rcases Nat.eq_zero_or_pos sz with h0 | h0
  · subst h0
    have e1 := flat_len hf'
    have e2 := flat_len hf
    rw [Nat.mul_zero] at e1 e2
    rw [List.eq_nil_of_length_eq_zero e1, List.eq_nil_of_length_eq_zero e2, if_neg (by omega)]
  · have hm : m = m / sz * sz + m % sz := by rw [Nat.mul_comm]; exact (Nat.div_add_mod m sz).symm
    have hlt := Nat.mod_lt m h0
    generalize m / sz = a at hm
    generalize m % sz = c at hm hlt
    subst hm
    rw [flat_get hf' a c hlt, flat_get hf a c hlt, List.getElem?_set]
    by_cases e1 : i = a
    · subst e1
      rw [if_pos rfl, if_pos hi, if_pos (by omega), show i * sz + c - i * sz = c from by omega]
      rfl
    · rw [if_neg e1, if_neg]
      rintro ⟨h1, h2⟩
      rcases Nat.lt_or_gt_of_ne e1 with h3 | h3
      · have := Nat.mul_le_mul_right sz h3; rw [Nat.succ_mul] at this; omega
      · have := Nat.mul_le_mul_right sz h3; rw [Nat.succ_mul] at this; omega
theorem cells_store {b : Blk} {off : Nat} {c xs : List PV} {vs : List Value} (hc : CellsVP sb nx μ b c) (hxs : VPs sb nx μ xs vs) (h1 : vs.all oneCell = true) (hle : off + xs.length ≤ b.n) {c' : List PV} (hc' : ∀ j, c'[j]? = if off ≤ j ∧ j < off + xs.length then xs[j - off]? else c[j]?) : CellsVP sb nx μ { b with t := setCells b.t off vs } c' := by
  intro j p hj
  rw [hc'] at hj
  rw [blk_set (by rw [← hxs.1]; exact hle), ← hxs.1]
  split at hj
  · rename_i e
    rw [if_pos e]
    obtain ⟨x, h2, h3⟩ := hxs.get hj
    exact ⟨x, h2, all_get h1 h2, h3⟩
  · rename_i e
    rw [if_neg e]; exact hc j p hj
theorem store_ok (hR : RelP T μ σ s) {p q : PV} {x y : Value} (hx : VP (bs μ σ s) σ.nx μ p x) (hy : VP (bs μ σ s) σ.nx μ q y) {t : TypeId} {o' : List (Nat × PO)} (h : pStore P σ.o t p q = some o') :
    ∃ s', eStore P t x y s = some (undef, s') ∧ Fin T μ σ s μ ⟨o', σ.nx⟩ s' := by
  obtain ⟨n, hn, h⟩ := Option.bind_eq_some_iff.1 h
  split at h
  · cases h
  rename_i hq
  simp only [Bool.and_eq_true] at hq
  obtain ⟨hqn, hqo⟩ := hq
  have hqn : q.cells.length = n := by simpa using hqn
  obtain ⟨hyc, hy1⟩ := hy.cells hqo
  have hyn : y.cells.toList.length = n := by rw [← hyc.1, hqn]
  have hst : ∀ (k off : Nat) (b : Blk), s.h.get k = some b → b.ro = false → off + n ≤ b.n → eStore P t (.pointer (some ⟨k, off, none⟩)) y s = some (undef, { s with h := s.h.set k (some { b with t := setCells b.t off y.cells.toList }) }) := by
    intro k off b h1 h2 h3
    unfold eStore asPtr
    simp only [Option.bind_some, hn, hyn, Nat.beq_refl, ck, cond_true]
    rw [stores_eq h1 h2 (by rw [hyn]; exact h3) hy1]; rfl
  cases hx with
  | ptr id off k hi hm =>
    simp only at h
    split at h
    · rename_i c hc
      split at h
      · rename_i hle
        have hle := Nat.le_of_ble_eq_true hle
        cases h
        have h0 := hR.own id _ hc
        rw [hm] at h0
        obtain ⟨k', b, h1, h2, h3, h4, h5, h6⟩ := h0
        cases h1
        refine ⟨_, hst k off b h2 h3 (by omega), put_ok hR hc rfl rfl hm (fun j hj => ?_) (fun hh => by rw [h2] at hh; cases hh) (fun _ _ => rfl) rfl rfl ?_⟩
        · show (s.h.set k _).get j = _
          rw [PT.get_set, if_neg hj]
        · refine ⟨k, { b with t := setCells b.t off y.cells.toList }, rfl, ?_, h3, h4, by show b.n = _; rw [spl_len]; exact h5, ?_⟩
          · show (s.h.set k _).get k = _
            rw [PT.get_set, if_pos rfl]
          · exact cells_store h6 hyc hy1 (by omega) fun j => spl_get _ _ _ _ (by omega)
      · cases h
    · cases h
  | rp id sz i off k hi hm =>
    simp only at h
    split at h
    · rename_i e sz' l hl
      split at h
      · rename_i hsz
        subst hsz
        obtain ⟨el, hel, h⟩ := Option.bind_eq_some_iff.1 h
        split at h
        · rename_i hle
          have hle := Nat.le_of_ble_eq_true hle
          cases h
          have h0 := hR.own id _ hl
          rw [hm] at h0
          obtain ⟨hf, h0⟩ := h0
          rcases h0 with ⟨h0, _⟩ | ⟨k', b, h1, h2, h3, h4, h5, h6⟩
          · cases h0
          cases h1
          have hil : i < l.length := by
            rcases Nat.lt_or_ge i l.length with h' | h'
            · exact h'
            · rw [List.getElem?_eq_none h'] at hel; cases hel
          have hfe := hf el (List.mem_of_getElem? hel)
          obtain ⟨p1, p2⟩ := pour_cells (x := q) hqn hfe hle
          have hbn : i * sz' + off + n ≤ b.n := by
            rw [h4]
            have := Nat.mul_le_mul_right sz' hil
            rw [Nat.succ_mul] at this; omega
          refine ⟨_, hst k _ b h2 h3 hbn, put_ok hR hl rfl rfl hm (fun j hj => ?_) (fun hh => by rw [h2] at hh; cases hh) (fun _ _ => rfl) rfl rfl ?_⟩
          · show (s.h.set k _).get j = _
            rw [PT.get_set, if_neg hj]
          · refine ⟨fun x hx => ?_, .inr ⟨k, { b with t := setCells b.t (i * sz' + off) y.cells.toList }, rfl, ?_, h3, by show b.n = _; rw [List.length_set]; exact h4, h5, ?_⟩⟩
            · rcases List.mem_or_eq_of_mem_set hx with h | h
              · exact hf x h
              · rw [h]; exact p1
            · show (s.h.set k _).get k = _
              rw [PT.get_set, if_pos rfl]
            · refine cells_store h6 hyc hy1 (by omega) fun m => ?_
              rw [flat_set hf hil p1, p2, hqn]
              by_cases hm1 : i * sz' ≤ m ∧ m < i * sz' + sz'
              · rw [if_pos hm1]
                by_cases hm2 : off ≤ m - i * sz' ∧ m - i * sz' < off + n
                · rw [if_pos hm2, if_pos (by omega), show m - i * sz' - off = m - (i * sz' + off) from by omega]
                · rw [if_neg hm2, if_neg (by omega)]
                  have := flat_get hf i (m - i * sz') (by omega)
                  rw [show i * sz' + (m - i * sz') = m from by omega, hel] at this
                  exact this.symm
              · rw [if_neg hm1, if_neg (by omega)]
        · cases h
      · cases h
    · cases h
  | _ => simp at h
end Go.PE
set_option linter.unusedVariables false
set_option linter.unusedSimpArgs false
/-! Operations: what is made; addresses; parts. -/
namespace Go.PE
open Go Go.RowKit Go.AE
variable {P : Program} {T : Tabs} {μ : Mu} {σ : PM} {s s' : St} {sb : St} {nx : Nat}

theorem plain_succ : ∀ (n : Nat) (v : Value), AE.plain n v = true → AE.plain (n + 1) v = true := by
  intro n
  induction n with
  | zero => intro v h; simp [AE.plain] at h
  | succ n ih =>
    intro v h
    have arr : ∀ a : Array Value, a.toList.all (AE.plain n) = true → a.toList.all (AE.plain (n + 1)) = true := fun a ha => List.all_eq_true.2 fun x hx => ih x (List.all_eq_true.1 ha x hx)
    cases v with
    | pointer a => cases a <;> simp [AE.plain] at h ⊢
    | slice a _ _ => cases a <;> simp [AE.plain] at h ⊢
    | map a => cases a <;> simp [AE.plain] at h ⊢
    | chan a => cases a <;> simp [AE.plain] at h ⊢
    | iface t v => simp only [AE.plain] at h ⊢; exact ih v h
    | agg cs => simp only [AE.plain] at h ⊢; exact arr cs h
    | tuple cs => simp only [AE.plain] at h ⊢; exact arr cs h
    | func fn a b => simp only [AE.plain, Bool.and_eq_true] at h ⊢; exact ⟨arr a h.1, arr b h.2⟩
    | _ => rfl
theorem plain_cells {v : Value} (h : AE.plain 8 v = true) : ∀ x ∈ v.cells.toList, AE.plain 8 x = true := by
  cases v with
  | agg cs =>
    simp only [AE.plain] at h
    intro x hx
    exact plain_succ 7 x (List.all_eq_true.1 h x hx)
  | _ => intro x hx; simp only [Value.cells] at hx; simp at hx; subst hx; exact h

/-! what is made -/
def newP (σ : PM) (p : PO) : PM := ⟨(σ.nx, p) :: σ.o, σ.nx + 1⟩
def vcells (vs : List Value) : List PV := vs.map .v
theorem vcells_ok {vs : List Value} (h : ∀ x ∈ vs, AE.plain 8 x = true) (h1 : vs.all oneCell = true) : VPs sb nx μ (vcells vs) vs := by
  refine ⟨by simp [vcells], fun i p x h2 h3 => ?_⟩
  simp only [vcells, List.getElem?_map, h3, Option.map_some, Option.some.injEq] at h2
  subst h2
  exact .v x (h x (List.mem_of_getElem? h3)) (all_get h1 h3)
/-- A block whose cells are known is made, and is one's own. -/
theorem made_ok (hR : RelP T μ σ s) {b : Blk} {c : List PV} (hro : b.ro = false) (hex : b.exact = true) (hn : b.n = c.length) (hc : CellsVP (bs μ σ s) σ.nx μ b c) : Res T μ σ s (.ptr σ.nx 0) (newP σ (.obj c)) (.pointer (some ⟨2 * s.nx, 0, none⟩)) (s.with b) := by
  refine ⟨_, new_ok (s' := s.with b) hR (fun k hk => by rw [with_get, if_neg hk]) (fun _ _ => rfl) rfl rfl rfl ⟨2 * s.nx, b, rfl, with_new s b, hro, hex, hn, hc⟩, ?_⟩
  exact .ptr σ.nx 0 _ (Nat.lt_succ_self _) (by simp [muSet])
theorem rowBlk_vp {e : TypeId} {c : List PV} {vs : List Value} (h : VPs sb nx μ c vs) (h1 : vs.all oneCell = true) : CellsVP sb nx μ (rowBlk e vs) c := by
  intro i p hi
  obtain ⟨x, h2, h3⟩ := h.get hi
  refine ⟨x, ?_, all_get h1 h2, h3⟩
  rw [← h2]
  refine setCells_cell vs 0 i _ rfl rfl ?_
  rcases Nat.lt_or_ge i vs.length with h' | h'
  · exact h'
  · rw [List.getElem?_eq_none h'] at h2; cases h2
def pZero (P : Program) (e : TypeId) : Option (List PV) := match uniT P e with
  | some n => some (List.replicate n (.v (.int .u8 0)))
  | none => (zeroT P e).map fun z => vcells z.cells.toList
def pAlloc (P : Program) (e : TypeId) (σ : PM) : Option (PV × PM) := (pZero P e).map fun c => (.ptr σ.nx 0, newP σ (.obj c))
theorem alloc_ok (hR : RelP T μ σ s) {e : TypeId} {r : PV} {σ' : PM} (h : pAlloc P e σ = some (r, σ')) : ∃ v s', eAlloc P e s = some (v, s') ∧ Res T μ σ s r σ' v s' := by
  obtain ⟨c, hc, h⟩ := Option.map_eq_some_iff.1 h
  cases h
  unfold pZero at hc
  unfold eAlloc
  split at hc
  · rename_i n hu
    cases hc
    rw [hu]
    refine ⟨_, s.with (zBlk e n), rfl, made_ok hR rfl rfl (by simp [zBlk]) fun i p hi => ?_⟩
    rw [List.getElem?_replicate] at hi
    split at hi
    · rename_i hin
      cases hi
      refine ⟨.int .u8 0, ?_, rfl, .v _ rfl rfl⟩
      unfold Blk.cell zBlk
      simp only
      rw [show Nat.blt i n = true from by simpa [Nat.blt_eq] using hin, PT.get_leaf]
      show [Value.int IntKind.u8 0][i % 1]? = _
      rw [Nat.mod_one]; rfl
    · cases hi
  · rename_i hu
    obtain ⟨z, hz, rfl⟩ := Option.map_eq_some_iff.1 hc
    rw [hu]
    obtain ⟨_, h1, h2⟩ := zeroT_spec hz
    simp only [hz, Option.bind_some, eNewRow, h2, ck, cond_true]
    refine ⟨_, s.with (rowBlk e z.cells.toList), rfl, made_ok hR rfl rfl (by simp [rowBlk, vcells]) ?_⟩
    exact rowBlk_vp (vcells_ok (plain_cells h1) h2) h2
def pBox (x : PV) (σ : PM) : Option (PV × PM) := match x.cells.all PV.one with
  | true => some (.ptr σ.nx 0, newP σ (.obj x.cells))
  | false => none
theorem box_ok (hR : RelP T μ σ s) {e : TypeId} {x : PV} {y : Value} (hx : VP (bs μ σ s) σ.nx μ x y) {r : PV} {σ' : PM} (h : pBox x σ = some (r, σ')) : ∃ v s', eBox e y s = some (v, s') ∧ Res T μ σ s r σ' v s' := by
  unfold pBox at h
  split at h
  · rename_i h1
    cases h
    obtain ⟨h2, h3⟩ := hx.cells h1
    unfold eBox eNewRow
    simp only [h3, ck, cond_true, Option.bind_some]
    exact ⟨_, s.with (rowBlk e y.cells.toList), rfl, made_ok hR rfl rfl (by rw [h2.1]; rfl) (rowBlk_vp h2 h3)⟩
  · cases h

/-! addresses -/
def pNil : PV → Option PV
  | .ptr id off => some (.ptr id off)
  | .fp c off => some (.fp c off)
  | .rp id sz i off => some (.rp id sz i off)
  | .fn f a c => some (.fn f a c)
  | _ => none
theorem nil_ok {x : PV} {y : Value} (hx : VP sb nx μ x y) {r : PV} (h : pNil x = some r) (s : St) : eNil y s = some (y, s) ∧ r = x := by
  cases hx <;> simp [pNil] at h <;> exact ⟨rfl, h.symm⟩
def addOff : PV → Nat → Option PV
  | .ptr id off, n => some (.ptr id (off + n))
  | .fp c off, n => some (.fp c (off + n))
  | .rp id sz i off, n => some (.rp id sz i (off + n))
  | _, _ => none
theorem addr_add {k z n : Nat} : (⟨k, z, none⟩ : Addr).add n = ⟨k, z + n, none⟩ := by
  rw [Addr.add]
  split
  · rename_i h; rw [h, Nat.add_zero]
  · rfl
theorem addOff_ok {x : PV} {y : Value} (hx : VP sb nx μ x y) {n : Nat} {r : PV} (h : addOff x n = some r) : ∃ k z, y = .pointer (some ⟨k, z, none⟩) ∧ VP sb nx μ r (.pointer (some ⟨k, z + n, none⟩)) := by
  cases hx with
  | ptr id off k hi hm => cases h; exact ⟨k, off, rfl, .ptr _ _ k hi hm⟩
  | fp l off k z b vs hb hl h1 h2 => cases h; exact ⟨k, z + off, rfl, by rw [Nat.add_assoc]; exact .fp l _ k z b vs hb hl h1 h2⟩
  | rp id sz i off k hi hm => cases h; exact ⟨k, i * sz + off, rfl, by rw [Nat.add_assoc]; exact .rp id sz i _ k hi hm⟩
  | _ => simp [addOff] at h
def fieldOf (P : Program) (t : TypeId) (f : Nat) : Option (Nat × TypeId) := (P.underlying t).bind fun d => (structF d).bind fun fs => fs[f]?.bind fun fl => some (fl.offset, fl.type)
def pFaddr (P : Program) (t : TypeId) (x : PV) (f : Nat) : Option PV := (fieldOf P t f).bind fun p => (sizeT P p.2).bind fun sz => match Nat.beq sz 0 with
  | true => none
  | false => addOff x p.1
theorem faddr_ok {t : TypeId} {x : PV} {y : Value} (hx : VP sb nx μ x y) {f : Nat} {r : PV} (h : pFaddr P t x f = some r) (s : St) : ∃ v, eFieldAddr P t y f s = some (v, s) ∧ VP sb nx μ r v := by
  obtain ⟨⟨fo, ft⟩, h1, h⟩ := Option.bind_eq_some_iff.1 h
  obtain ⟨sz, h2, h⟩ := Option.bind_eq_some_iff.1 h
  obtain ⟨d, h3, h1⟩ := Option.bind_eq_some_iff.1 h1
  obtain ⟨fs, h4, h1⟩ := Option.bind_eq_some_iff.1 h1
  obtain ⟨fl, h5, h1⟩ := Option.bind_eq_some_iff.1 h1
  cases h1
  split at h
  · cases h
  rename_i hz
  obtain ⟨k, z, rfl, h6⟩ := addOff_ok hx h
  refine ⟨_, ?_, h6⟩
  unfold eFieldAddr asPtr
  simp only [h3, h4, h5, h2, Option.bind_some, hz, Bool.not_false, ck, cond_true, addr_add]
def pIdx (x : PV) : Option Nat := match x with
  | .v (.int _ (.ofNat n)) => some n
  | _ => none
theorem pIdx_ok {x : PV} {y : Value} (hx : VP sb nx μ x y) {i : Nat} (h : pIdx x = some i) : asIdx y = some i := by
  cases hx with
  | v x hp h1 =>
    unfold pIdx at h
    split at h
    · rename_i k n heq; cases heq; cases h; rfl
    · cases h
  | _ => simp [pIdx] at h
/-- A row's elements. -/
def elemsR (o : List (Nat × PO)) (id n : Nat) : Option (Nat × List PV) := match look o id with
  | some (.row _ sz l) => if l.length = n then some (sz, l) else none
  | some (.froz sz l) => if l.length = n then some (sz, l) else none
  | _ => none
def pIaddr (P : Program) (o : List (Nat × PO)) (t : TypeId) (x ix : PV) : Option PV := (pIdx ix).bind fun i => (P.underlying t).bind fun d => match d with
  | .array n e => (sizeT P e).bind fun sz => match Nat.blt i n with
    | true => addOff x (i * sz)
    | false => none
  | .slice e => (sizeT P e).bind fun sz => match x with
    | .list sz' l => if sz' = sz then (l[i]?).map fun el => .fp el.cells 0 else none
    | .lit sz' l => if sz' = sz then (l[i]?).map fun el => .fp el.cells 0 else none
    | .row id n => (elemsR o id n).bind fun p => if p.1 = sz then (p.2[i]?).map fun _ => .rp id sz i 0 else none
    | _ => none
  | _ => none
theorem fp_elem {sz : Nat} {l : List PV} {a : Addr} {b : Blk} {vs : List Value} (hs : a.spot = none) (hb : sb.h.get a.block = some b) (hl : b.cells a.off (l.length * sz) = some vs) (h1 : vs.all oneCell = true) (hf : ∀ x ∈ l, x.cells.length = sz) (h : ∀ (i : Nat) p x, (flatP l)[i]? = some p → vs[i]? = some x → VP sb nx μ p x) {i : Nat} {el : PV} (hi : l[i]? = some el) : VP sb nx μ (.fp el.cells 0) (.pointer (some (a.add (i * sz)))) := by
  rw [← flat_len hf] at hl
  obtain ⟨us, k1, k2, k3⟩ := (flat_elem hf (cellsAt_of hl h1 h) hi).cells
  have : a.add (i * sz) = ⟨a.block, a.off + i * sz + 0, none⟩ := by
    obtain ⟨k, z, sp⟩ := a
    simp only at hs
    subst hs
    rw [addr_add]; rfl
  rw [this]
  exact .fp el.cells 0 a.block _ b us hb k1 k3 k2.2
theorem lt_of_get {α : Type} {l : List α} {i : Nat} {x : α} (h : l[i]? = some x) : i < l.length := by
  rcases Nat.lt_or_ge i l.length with h' | h'
  · exact h'
  · rw [List.getElem?_eq_none h'] at h; cases h
theorem elemsR_ok (hR : RelP T μ σ s) {id n sz : Nat} {l : List PV} (h : elemsR σ.o id n = some (sz, l)) : l.length = n ∧ (∀ x ∈ l, x.cells.length = sz) ∧ (μ id = none ∧ l = [] ∨ ∃ k b, μ id = some k ∧ s.h.get k = some b ∧ b.n = l.length * sz ∧ CellsVP (bs μ σ s) σ.nx μ b (flatP l)) := by
  unfold elemsR at h
  split at h
  · rename_i e sz' l' hl
    split at h
    · rename_i hn
      cases h
      obtain ⟨h0, h1⟩ := hR.own id _ hl
      refine ⟨hn, h0, ?_⟩
      rcases h1 with h1 | ⟨k, b, h1, h2, h3, h4, h5, h6⟩
      · exact .inl h1
      · exact .inr ⟨k, b, h1, h2, h4, h6⟩
    · cases h
  · rename_i sz' l' hl
    split at h
    · rename_i hn
      cases h
      obtain ⟨h0, h1⟩ := hR.own id _ hl
      refine ⟨hn, h0, ?_⟩
      rcases h1 with h1 | ⟨k, b, h1, h2, h3, h4, h6⟩
      · exact .inl h1
      · exact .inr ⟨k, b, h1, (base_some h2).1, h4, h6⟩
    · cases h
  · cases h
theorem blt_of {a b : Nat} (h : a < b) : Nat.blt a b = true := by simpa [Nat.blt_eq] using h
theorem iaddr_ok (hR : RelP T μ σ s) {t : TypeId} {x ix : PV} {y iy : Value} (hx : VP (bs μ σ s) σ.nx μ x y) (hi : VP (bs μ σ s) σ.nx μ ix iy) {r : PV} (h : pIaddr P σ.o t x ix = some r) : ∃ v, eIndexAddr P t y iy s = some (v, s) ∧ VP (bs μ σ s) σ.nx μ r v := by
  obtain ⟨i, h1, h⟩ := Option.bind_eq_some_iff.1 h
  obtain ⟨d, h2, h⟩ := Option.bind_eq_some_iff.1 h
  have h1 := pIdx_ok hi h1
  unfold eIndexAddr
  rw [h1, h2]
  simp only [Option.bind_some]
  split at h
  · rename_i n e
    obtain ⟨sz, h3, h⟩ := Option.bind_eq_some_iff.1 h
    split at h
    · rename_i hlt
      obtain ⟨k, z, rfl, h4⟩ := addOff_ok hx h
      simp only [h3, Option.bind_some, hlt, ck, cond_true, addr_add]
      exact ⟨_, rfl, h4⟩
    · cases h
  · rename_i e
    obtain ⟨sz, h3, h⟩ := Option.bind_eq_some_iff.1 h
    cases hx with
    | nil => simp at h
    | list sz' l a c b vs hs hc hb hl g1 hk hf g2 =>
      simp only at h
      split at h
      · rename_i e; subst e
        obtain ⟨el, h4, h5⟩ := Option.map_eq_some_iff.1 h
        subst h5
        simp only [h3, Option.bind_some, blt_of (lt_of_get h4), ck, cond_true]
        exact ⟨_, rfl, fp_elem hs hb hl g1 hf g2 h4⟩
      · cases h
    | lit sz' l a b vs hs hb hl g1 hk hf g2 =>
      simp only at h
      split at h
      · rename_i e; subst e
        obtain ⟨el, h4, h5⟩ := Option.map_eq_some_iff.1 h
        subst h5
        simp only [h3, Option.bind_some, blt_of (lt_of_get h4), ck, cond_true]
        exact ⟨_, rfl, fp_elem hs hb hl g1 hf g2 h4⟩
      · cases h
    | row id n hid =>
      simp only at h
      obtain ⟨⟨sz', l⟩, h4, h⟩ := Option.bind_eq_some_iff.1 h
      simp only at h
      split at h
      · rename_i e; subst e
        obtain ⟨el, h5, h6⟩ := Option.map_eq_some_iff.1 h
        subst h6
        obtain ⟨q1, q2, q3⟩ := elemsR_ok hR h4
        have hlt := lt_of_get h5
        rcases q3 with ⟨_, rfl⟩ | ⟨k, b, q3, q4, _⟩
        · simp at hlt
        · rw [q3]
          simp only [Option.map_some, h3, Option.bind_some, blt_of (show i < n by omega), ck, cond_true, addr0, addr_add, Nat.zero_add]
          exact ⟨_, rfl, .rp id sz' i 0 k hid q3⟩
      · cases h
    | _ => simp at h
  · cases h

/-! parts -/
theorem part_ok {t : TypeId} {c : List PV} {vs : Array Value} (hv : VPs sb nx μ c vs.toList) (h1 : vs.toList.all oneCell = true) {off : Nat} {r : PV} (h : pRead P t c off = some r) : ∃ v, ePart P t vs off = some v ∧ VP sb nx μ r v := by
  obtain ⟨g, hg, h⟩ := Option.bind_eq_some_iff.1 h
  unfold ePart
  simp only [hg, Option.bind_some]
  cases g with
  | false =>
    obtain ⟨x, h2, h3⟩ := hv.get h
    exact ⟨x, by simpa using h2, h3⟩
  | true =>
    simp only at h ⊢
    obtain ⟨n, hn, h⟩ := Option.bind_eq_some_iff.1 h
    split at h
    · rename_i hle
      have hle := Nat.le_of_ble_eq_true hle
      cases h
      simp only [hn, Option.bind_some]
      have hv2 := (hv.drop off).take n
      have hex : (vs.extract off (off + n)).toList = (vs.toList.drop off).take n := by simp [Array.toList_extract, List.extract]
      refine ⟨_, rfl, .agg _ _ ?_ ?_ ?_⟩
      · have := hv2.1
        rw [← hex] at this
        rw [this, Array.length_toList]
      · rw [hex]
        refine List.all_eq_true.2 fun x hx => ?_
        exact List.all_eq_true.1 h1 x (List.mem_of_mem_drop (List.mem_of_mem_take hx))
      · intro i p x h2 h3
        refine hv2.2 i p x h2 ?_
        rw [← hex, Array.getElem?_toList]; exact h3
    · cases h
theorem agg_inv {l : List PV} {y : Value} (h : VP sb nx μ (.agg l) y) : ∃ vs, y = .agg vs ∧ VPs sb nx μ l vs.toList ∧ vs.toList.all oneCell = true := by
  cases h with
  | agg l vs hn h1 h => exact ⟨vs, rfl, ⟨by simpa using hn, by simpa using h⟩, h1⟩
def pField (P : Program) (t : TypeId) (x : PV) (f : Nat) : Option PV := (fieldOf P t f).bind fun p => match x with
  | .agg c => pRead P p.2 c p.1
  | _ => none
theorem field_ok {t : TypeId} {x : PV} {y : Value} (hx : VP sb nx μ x y) {f : Nat} {r : PV} (h : pField P t x f = some r) (s : St) : ∃ v, eField P t y f s = some (v, s) ∧ VP sb nx μ r v := by
  obtain ⟨⟨fo, ft⟩, h1, h⟩ := Option.bind_eq_some_iff.1 h
  obtain ⟨d, h3, h1⟩ := Option.bind_eq_some_iff.1 h1
  obtain ⟨fs, h4, h1⟩ := Option.bind_eq_some_iff.1 h1
  obtain ⟨fl, h5, h1⟩ := Option.bind_eq_some_iff.1 h1
  cases h1
  split at h
  · rename_i c
    obtain ⟨vs, rfl, h6, h7⟩ := agg_inv hx
    obtain ⟨v, h8, h9⟩ := part_ok h6 h7 h
    refine ⟨v, ?_, h9⟩
    unfold eField
    simp only [h3, h4, h5, Option.bind_some, h8]
  · cases h
def pIndex (P : Program) (t : TypeId) (x ix : PV) : Option PV := (pIdx ix).bind fun i => (P.underlying t).bind fun d => match d, x with
  | .array n e, .agg c => (sizeT P e).bind fun sz => match Nat.blt i n with
    | true => pRead P e c (i * sz)
    | false => none
  | .string, .v (.string b) => (b[i]?).map fun c => .v (.int .u8 c.toNat)
  | _, _ => none
theorem index_ok {t : TypeId} {x ix : PV} {y iy : Value} (hx : VP sb nx μ x y) (hi : VP sb nx μ ix iy) {r : PV} (h : pIndex P t x ix = some r) (s : St) : ∃ v, eIndex P t y iy s = some (v, s) ∧ VP sb nx μ r v := by
  obtain ⟨i, h1, h⟩ := Option.bind_eq_some_iff.1 h
  obtain ⟨d, h2, h⟩ := Option.bind_eq_some_iff.1 h
  have h1 := pIdx_ok hi h1
  unfold eIndex
  rw [h1, h2]
  simp only [Option.bind_some]
  split at h
  · rename_i n e c
    obtain ⟨sz, h3, h⟩ := Option.bind_eq_some_iff.1 h
    split at h
    · rename_i hlt
      obtain ⟨vs, rfl, h6, h7⟩ := agg_inv hx
      obtain ⟨v, h8, h9⟩ := part_ok h6 h7 h
      simp only [h3, Option.bind_some, hlt, ck, cond_true, h8]
      exact ⟨v, rfl, h9⟩
    · cases h
  · rename_i b
    obtain ⟨c, h3, rfl⟩ := Option.map_eq_some_iff.1 h
    cases hx
    simp only [h3, Option.bind_some]
    exact ⟨_, rfl, .v _ rfl rfl⟩
  · cases h
def pExtract (x : PV) (i : Nat) : Option PV := match x with
  | .tup l => l[i]?
  | _ => none
theorem extract_ok {x : PV} {y : Value} (hx : VP sb nx μ x y) {i : Nat} {r : PV} (h : pExtract x i = some r) (s : St) : ∃ v, eExtract y i s = some (v, s) ∧ VP sb nx μ r v := by
  cases hx with
  | tup l vs hn h1 =>
    simp only [pExtract] at h
    have hlt := lt_of_get h
    have hv : vs[i]? = some (vs[i]'(by omega)) := Array.getElem?_eq_getElem (by omega)
    refine ⟨_, ?_, h1 i r _ h hv⟩
    unfold eExtract
    simp only [hv, Option.bind_some]
  | _ => simp [pExtract] at h

/-! values out of parts -/
def pFill (place : Nat → Option (Nat × Nat)) : List PV → List (Nat × PV) → Option (List PV)
  | c, [] => some c
  | c, (i, x) :: r => (place i).bind fun p => match Nat.beq x.cells.length p.2 && Nat.ble (p.1 + x.cells.length) c.length && x.cells.all PV.one with
    | true => pFill place (spl c p.1 x.cells) r
    | false => none
theorem foldl_set (off : Nat) : ∀ (xs : List Value) (k : Nat) (cs : Array Value), off + k + xs.length ≤ cs.size → ∀ j, ((xs.zipIdx k).foldl (fun cs (p : Value × Nat) => cs.setIfInBounds (off + p.2) p.1) cs).toList[j]? = if off + k ≤ j ∧ j < off + k + xs.length then xs[j - (off + k)]? else cs.toList[j]?
  | [], k, cs, h, j => by simp; omega
  | x :: xs, k, cs, h, j => by
    simp only [List.length_cons] at h
    simp only [List.zipIdx_cons, List.foldl_cons]
    rw [foldl_set off xs (k + 1) _ (by simp; omega) j]
    by_cases e : j = off + k
    · subst e
      rw [if_neg (by omega), if_pos (by simp)]
      simp [List.getElem?_set]; omega
    · by_cases h2 : off + (k + 1) ≤ j ∧ j < off + (k + 1) + xs.length
      · rw [if_pos h2, if_pos (by simp only [List.length_cons]; omega)]
        rw [show j - (off + k) = (j - (off + (k + 1))) + 1 from by omega]; simp
      · rw [if_neg h2, if_neg (by simp only [List.length_cons]; omega)]
        simp only [Array.toList_setIfInBounds]
        rw [List.getElem?_set, if_neg (by omega)]
theorem foldl_size (off : Nat) : ∀ (xs : List Value) (k : Nat) (cs : Array Value), ((xs.zipIdx k).foldl (fun cs (p : Value × Nat) => cs.setIfInBounds (off + p.2) p.1) cs).size = cs.size
  | [], k, cs => rfl
  | x :: xs, k, cs => by simp only [List.zipIdx_cons, List.foldl_cons]; rw [foldl_size off xs]; simp
theorem fill_ok (place : Nat → Option (Nat × Nat)) : ∀ (ps : List (Nat × PV)) (qs : List (Nat × Value)) (c r : List PV) (cs : Array Value), ps.length = qs.length → (∀ (j : Nat) p q, ps[j]? = some p → qs[j]? = some q → p.1 = q.1 ∧ VP sb nx μ p.2 q.2) → VPs sb nx μ c cs.toList → cs.toList.all oneCell = true → pFill place c ps = some r →
    ∃ rs, Instr.fill place cs qs = some rs ∧ VPs sb nx μ r rs.toList ∧ rs.toList.all oneCell = true
  | [], [], c, r, cs, _, _, hc, h1, h => by cases h; exact ⟨cs, rfl, hc, h1⟩
  | (i, x) :: ps, (i', y) :: qs, c, r, cs, hl, hp, hc, h1, h => by
    obtain ⟨e, hxy⟩ := hp 0 _ _ rfl rfl
    simp only at e hxy
    subst e
    simp only [pFill] at h
    obtain ⟨⟨off, sz⟩, h2, h⟩ := Option.bind_eq_some_iff.1 h
    split at h
    · rename_i hck
      simp only [Bool.and_eq_true] at hck
      obtain ⟨⟨k1, k2⟩, k3⟩ := hck
      have k1 : x.cells.length = sz := by simpa using k1
      have k2 := Nat.le_of_ble_eq_true k2
      obtain ⟨q1, q2⟩ := hxy.cells k3
      have hys : y.cells.size = x.cells.length := by rw [q1.1]; simp
      have hcs : cs.size = c.length := by rw [hc.1]; simp
      have hf := foldl_set off y.cells.toList 0 cs (by simp only [Nat.add_zero, Array.length_toList]; omega)
      have hsz := foldl_size off y.cells.toList 0 cs
      simp only [Nat.add_zero, Array.length_toList] at hf
      have hnew : VPs sb nx μ (spl c off x.cells) ((y.cells.toList.zipIdx 0).foldl (fun cs (p : Value × Nat) => cs.setIfInBounds (off + p.2) p.1) cs).toList := by
        refine ⟨?_, fun j p z h4 h5 => ?_⟩
        · rw [spl_len, Array.length_toList]; exact (hsz.trans hcs).symm
        · rw [spl_get _ _ _ _ k2] at h4
          rw [hf, hys] at h5
          split at h4
          · rename_i hj; rw [if_pos hj] at h5; exact q1.2 _ _ _ h4 h5
          · rename_i hj; rw [if_neg hj] at h5; exact hc.2 _ _ _ h4 h5
      have hone : ((y.cells.toList.zipIdx 0).foldl (fun cs (p : Value × Nat) => cs.setIfInBounds (off + p.2) p.1) cs).toList.all oneCell = true := by
        refine List.all_eq_true.2 fun z hz => ?_
        obtain ⟨j, hj⟩ := List.getElem?_of_mem hz
        rw [hf] at hj
        split at hj
        · exact all_get q2 hj
        · exact all_get h1 hj
      obtain ⟨rs, r1, r2, r3⟩ := fill_ok place ps qs _ r _ (by simpa using hl) (fun j p q a b => hp (j + 1) p q (by simpa using a) (by simpa using b)) hnew hone h
      refine ⟨rs, ?_, r2, r3⟩
      clear hnew hone hf hsz
      have hcond : ¬ (decide (y.cells.size ≠ sz) || decide (off + y.cells.size > cs.size)) = true := by
        simp only [Bool.or_eq_true, decide_eq_true_eq]; omega
      simp only [Instr.fill, h2]
      rw [if_neg hcond, ← Array.foldl_toList, Array.toList_zipIdx]
      exact r1
    · cases h
  | [], _ :: _, _, _, _, hl, _, _, _, _ => by simp at hl
  | _ :: _, [], _, _, _, hl, _, _, _, _ => by simp at hl
def pBuild (P : Program) (t : TypeId) (parts : List (Nat × PV)) : Option PV := (zeroT P t).bind fun z => (P.underlying t).bind fun d => match d with
  | .struct fields => (placesT P fields).bind fun pl => (pFill (pl[·]?) (vcells z.cells.toList) parts).map .agg
  | .array _ e => (sizeT P e).bind fun sz => (pFill (fun i => some (i * sz, sz)) (vcells z.cells.toList) parts).map .agg
  | _ => none
theorem build_ok {t : TypeId} {ps : List (Nat × PV)} {qs : List (Nat × Value)} (hl : ps.length = qs.length) (hp : ∀ (j : Nat) p q, ps[j]? = some p → qs[j]? = some q → p.1 = q.1 ∧ VP sb nx μ p.2 q.2) {r : PV} (h : pBuild P t ps = some r) (s : St) : ∃ v, eBuild P t qs s = some (v, s) ∧ VP sb nx μ r v := by
  obtain ⟨z, hz, h⟩ := Option.bind_eq_some_iff.1 h
  obtain ⟨d, hd, h⟩ := Option.bind_eq_some_iff.1 h
  obtain ⟨_, h1, h2⟩ := zeroT_spec hz
  have hc : VPs sb nx μ (vcells z.cells.toList) z.cells.toList := vcells_ok (plain_cells h1) h2
  unfold eBuild
  simp only [hz, hd, Option.bind_some]
  split at h
  · rename_i fields
    obtain ⟨pl, h3, h⟩ := Option.bind_eq_some_iff.1 h
    obtain ⟨c, h4, rfl⟩ := Option.map_eq_some_iff.1 h
    obtain ⟨rs, h5, h6, h7⟩ := fill_ok _ ps qs _ c _ hl hp hc h2 h4
    simp only [h3, Option.bind_some, h5]
    exact ⟨_, rfl, .agg _ _ (by simpa using h6.1) h7 (by simpa using h6.2)⟩
  · rename_i n e
    obtain ⟨sz, h3, h⟩ := Option.bind_eq_some_iff.1 h
    obtain ⟨c, h4, rfl⟩ := Option.map_eq_some_iff.1 h
    obtain ⟨rs, h5, h6, h7⟩ := fill_ok _ ps qs _ c _ hl hp hc h2 h4
    simp only [h3, Option.bind_some, h5]
    exact ⟨_, rfl, .agg _ _ (by simpa using h6.1) h7 (by simpa using h6.2)⟩
  · cases h
end Go.PE
