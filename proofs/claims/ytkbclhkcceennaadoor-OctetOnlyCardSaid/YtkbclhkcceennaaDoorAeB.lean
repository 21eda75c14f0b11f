import Derived.Test.YtkbclhkcceennaaDoorAeT
import Derived.KernelRfl
set_option linter.unusedVariables false
set_option linter.unusedSimpArgs false
/-! Words for rows of bytes, numbers and what grows. -/
namespace Go.AE
open Go Go.RowKit
variable {P : Program}

/-- No number that may be taken is taken. -/
structure Wf (s : St) : Prop where
  pos : 0 < s.st
  free : ∀ k, s.h.get (2 * (s.nx + s.st * k)) = none

/-- All that lay there lies there still; numbers are left. -/
structure Grows (s s' : St) : Prop where
  keep : ∀ id b, s.h.get id = some b → s'.h.get id = some b
  hm : ∀ id b, s.hm.get id = some b → s'.hm.get id = some b
  st : s'.st = s.st
  nx : ∃ k, s'.nx = s.nx + s.st * k
  wf : Wf s'

theorem Grows.refl {s : St} (h : Wf s) : Grows s s := ⟨fun _ _ h => h, fun _ _ h => h, rfl, ⟨0, by simp⟩, h⟩
theorem Grows.trans {a b c : St} (h : Grows a b) (k : Grows b c) : Grows a c :=
  ⟨fun id x e => k.keep id x (h.keep id x e), fun id x e => k.hm id x (h.hm id x e), k.st.trans h.st, by
    obtain ⟨i, hi⟩ := h.nx; obtain ⟨j, hj⟩ := k.nx
    exact ⟨i + j, by rw [hj, hi, h.st, Nat.mul_add, Nat.add_assoc]⟩, k.wf⟩

theorem Wf.new {s : St} (h : Wf s) : s.h.get (2 * s.nx) = none := by simpa using h.free 0

/-- The state behind an allocation. -/
def St.with (s : St) (b : Blk) : St := { s with h := s.h.set (2 * s.nx) (some b), nx := s.nx + s.st }
theorem alloc_with (s : St) (b : Blk) : s.alloc b = some (2 * s.nx, s.with b) := rfl
theorem with_get (s : St) (b : Blk) (id : Nat) : (s.with b).h.get id = if id = 2 * s.nx then some b else s.h.get id := by
  unfold St.with; simp only [PT.get_set]
theorem with_new (s : St) (b : Blk) : (s.with b).h.get (2 * s.nx) = some b := by rw [with_get, if_pos rfl]
theorem with_old {s : St} (b : Blk) {id : Nat} {x : Blk} (h : Wf s) (hx : s.h.get id = some x) : (s.with b).h.get id = some x := by
  rw [with_get, if_neg]
  · exact hx
  · rintro rfl; rw [h.new] at hx; cases hx
theorem with_wf {s : St} (b : Blk) (h : Wf s) : Wf (s.with b) := by
  refine ⟨h.pos, fun k => ?_⟩
  show (s.with b).h.get (2 * (s.nx + s.st + s.st * k)) = none
  have := h.free (k + 1)
  rw [Nat.mul_succ] at this
  rw [with_get, if_neg (by have := h.pos; omega), show s.nx + s.st + s.st * k = s.nx + (s.st * k + s.st) from by omega]
  exact this
theorem with_grows {s : St} (b : Blk) (h : Wf s) : Grows s (s.with b) :=
  ⟨fun _ _ hx => with_old b h hx, fun _ _ hx => hx, rfl, ⟨1, by simp [St.with]⟩, with_wf b h⟩

/-- A block is taken away, which was not there at the beginning. -/
def St.without (s : St) (id : Nat) : St := { s with h := s.h.set id none }
theorem without_get (s : St) (id j : Nat) : (s.without id).h.get j = if j = id then none else s.h.get j := by
  unfold St.without; simp only [PT.get_set]
theorem without_wf {s : St} (id : Nat) (h : Wf s) : Wf (s.without id) := by
  refine ⟨h.pos, fun k => ?_⟩
  rw [without_get]
  split
  · rfl
  · exact h.free k

/-! ### cells -/
theorem cells_len (b : Blk) : ∀ (n i : Nat) (vs : List Value), b.cells i n = some vs → vs.length = n
  | 0, i, vs, h => by simp only [Blk.cells, Option.some.injEq] at h; subst h; rfl
  | n + 1, i, vs, h => by
    simp only [Blk.cells] at h
    obtain ⟨u, _, h⟩ := Option.bind_eq_some_iff.1 h
    obtain ⟨r, hr, h⟩ := Option.bind_eq_some_iff.1 h
    simp only [Option.some.injEq] at h; subst h
    simp [cells_len b n (i + 1) r hr]
theorem cells_at (b : Blk) : ∀ (n i : Nat) (vs : List Value), b.cells i n = some vs → ∀ (j : Nat), j < n → b.cell (i + j) = vs[j]?
  | 0, i, vs, h, j, hj => by omega
  | n + 1, i, vs, h, j, hj => by
    simp only [Blk.cells] at h
    obtain ⟨u, hu, h⟩ := Option.bind_eq_some_iff.1 h
    obtain ⟨r, hr, h⟩ := Option.bind_eq_some_iff.1 h
    simp only [Option.some.injEq] at h; subst h
    cases j with
    | zero => simpa using hu
    | succ j =>
      have := cells_at b n (i + 1) r hr j (by omega)
      simp only [List.getElem?_cons_succ]
      rw [← this, show i + 1 + j = i + (j + 1) from by omega]
theorem cells_of (b : Blk) : ∀ (n i : Nat) (vs : List Value), vs.length = n → (∀ (j : Nat), j < n → b.cell (i + j) = vs[j]?) → b.cells i n = some vs
  | 0, i, vs, h, _ => by
    have := List.length_eq_zero_iff.1 h
    subst this; rfl
  | n + 1, i, vs, h, hc => by
    cases vs with
    | nil => simp at h
    | cons v vs =>
      have h0 := hc 0 (by omega)
      simp only [Nat.add_zero, List.getElem?_cons_zero] at h0
      simp only [Blk.cells, h0, Option.bind_some]
      rw [cells_of b n (i + 1) vs (by simpa using h) fun j hj => by
        have := hc (j + 1) (by omega)
        simpa [show i + (j + 1) = i + 1 + j from by omega] using this]
      rfl

theorem loads_grows {s s' : St} (h : Grows s s') {a : Addr} {n : Nat} {vs : List Value} (hl : s.loads a n = some vs) : s'.loads a n = some vs := by
  unfold St.loads at hl ⊢
  obtain ⟨b, hb, hc⟩ := Option.bind_eq_some_iff.1 hl
  rw [h.keep _ _ hb]; exact hc
theorem load_grows {s s' : St} (h : Grows s s') {a : Addr} {v : Value} (hl : s.load a = some v) : s'.load a = some v := by
  unfold St.load at hl ⊢
  obtain ⟨b, hb, hc⟩ := Option.bind_eq_some_iff.1 hl
  rw [h.keep _ _ hb]; exact hc
theorem loads_load {s : St} {a : Addr} {n : Nat} {vs : List Value} (hl : s.loads a n = some vs) {i : Nat} {v : Value} (hi : vs[i]? = some v) (hs : a.spot = none) : s.load (a.add i) = some v := by
  unfold St.loads at hl
  obtain ⟨b, hb, hc⟩ := Option.bind_eq_some_iff.1 hl
  have hlen := cells_len b _ _ _ hc
  have hlt : i < n := by
    rw [← hlen]
    rcases Nat.lt_or_ge i vs.length with h' | h'
    · exact h'
    · rw [List.getElem?_eq_none h'] at hi; cases hi
  have := cells_at b _ _ _ hc i hlt
  unfold St.load
  rw [Addr_add' a hs]
  simp only [hb, Option.bind_some]
  rw [this, hi]

/-! ### rows of bytes -/
def u8v (c : UInt8) : Value := .int .u8 (c.toNat : Int)
@[simp] theorem u8v_one (c : UInt8) : oneCell (u8v c) = true := rfl

/-- A slice of bytes reads so. -/
def Bytes (s : St) (v : Value) (l : List UInt8) : Prop := (v = .slice none 0 0 ∧ l = []) ∨ ∃ a c, v = .slice (some a) l.length c ∧ a.spot = none ∧ l.length ≤ c ∧ s.loads a l.length = some (l.map u8v)

theorem Bytes.grows {s s' : St} (h : Grows s s') {v : Value} {l : List UInt8} (hb : Bytes s v l) : Bytes s' v l := by
  rcases hb with ⟨h1, h2⟩ | ⟨a, c, h1, h2, h3, h4⟩
  · exact .inl ⟨h1, h2⟩
  · exact .inr ⟨a, c, h1, h2, h3, loads_grows h h4⟩

/-- The types of a slice of bytes. -/
structure U8T (P : Program) (ty e : TypeId) : Prop where
  und : P.underlying ty = some (.slice e)
  el : P.underlying e = some (.int .u8)
  inf : (P.info? e).map (fun i => (i.size, i.bytes)) = some (1, 1)
  zero : zeroT P e = some (.int .u8 0)

/-- A slice of bytes that the call has made, and that may be appended to. -/
def Row (e : TypeId) (s : St) (v : Value) (l : List UInt8) : Prop := (v = .slice none 0 0 ∧ l = []) ∨ ∃ id b, v = .slice (some ⟨id, 0, none⟩) l.length l.length ∧ s.h.get id = some b ∧ b.n = l.length ∧ b.ro = false ∧ (b.exact = false → b.esz = 1 ∧ b.elem = e) ∧ b.cells 0 l.length = some (l.map u8v)
/-- It was not there at the beginning. -/
def Fresh (s0 : St) (v : Value) : Prop := ∀ a n c, v = .slice (some a) n c → s0.h.get a.block = none

theorem Row.bytes {e : TypeId} {s : St} {v : Value} {l : List UInt8} (h : Row e s v l) : Bytes s v l := by
  rcases h with ⟨h1, h2⟩ | ⟨id, b, h1, h2, h3, h4, h5, h6⟩
  · exact .inl ⟨h1, h2⟩
  · exact .inr ⟨⟨id, 0, none⟩, l.length, h1, rfl, Nat.le_refl _, by unfold St.loads; rw [h2]; exact h6⟩
theorem Fresh.nil (s0 : St) (n c : Nat) : Fresh s0 (.slice none n c) := fun a n c h => by cases h
theorem Row.nil (e : TypeId) (s : St) : Row e s (.slice none 0 0) [] := .inl ⟨rfl, rfl⟩

theorem map_u8v_one (l : List UInt8) : (l.map u8v).all oneCell = true := by
  rw [List.all_eq_true]
  intro v hv
  obtain ⟨c, _, rfl⟩ := List.mem_map.1 hv
  rfl

theorem setCells_cell (vs : List Value) (n i : Nat) (b : Blk) (hn : b.n = vs.length) (ht : b.t = setCells .leaf 0 vs) (hi : i < vs.length) : b.cell i = vs[i]? := by
  unfold Blk.cell
  rw [hn, ht]
  have : Nat.blt i vs.length = true := by simpa [Nat.blt_eq] using hi
  rw [this, setCells_leaf_get vs i hi, List.getElem?_eq_getElem hi]
theorem row_cells (vs : List Value) (b : Blk) (hn : b.n = vs.length) (ht : b.t = setCells .leaf 0 vs) : b.cells 0 vs.length = some vs :=
  cells_of b _ 0 vs rfl fun j hj => by rw [Nat.zero_add]; exact setCells_cell vs 0 j b hn ht hj

theorem grown_row (e : TypeId) (st : Bool) (l : List UInt8) (s : St) : Row e (s.with (grownBlk e 1 st (l.map u8v))) (.slice (some ⟨2 * s.nx, 0, none⟩) l.length l.length) l :=
  .inr ⟨2 * s.nx, _, rfl, with_new s _, by simp [grownBlk], rfl, fun _ => ⟨rfl, rfl⟩, by
    have := row_cells (l.map u8v) (grownBlk e 1 st (l.map u8v)) rfl rfl
    simpa using this⟩
theorem made_row (e : TypeId) (l : List UInt8) (s : St) : Row e (s.with (rowBlk e (l.map u8v))) (.slice (some ⟨2 * s.nx, 0, none⟩) l.length l.length) l :=
  .inr ⟨2 * s.nx, _, rfl, with_new s _, by simp [rowBlk], rfl, fun h => by simp [rowBlk] at h, by
    have := row_cells (l.map u8v) (rowBlk e (l.map u8v)) rfl rfl
    simpa using this⟩

theorem Grows.fresh_new {s0 s : St} (h : Grows s0 s) : s0.h.get (2 * s.nx) = none := by
  cases hh : s0.h.get (2 * s.nx) with
  | none => rfl
  | some b => have := h.keep _ _ hh; rw [h.wf.new] at this; cases this
theorem Grows.with {s0 s : St} (h : Grows s0 s) (b : Blk) : Grows s0 (s.with b) := h.trans (with_grows b h.wf)
theorem Grows.without {s0 s : St} (h : Grows s0 s) {id : Nat} (hi : s0.h.get id = none) : Grows s0 (s.without id) :=
  ⟨fun j b hj => (by
    rw [without_get, if_neg]
    · exact h.keep j b hj
    · intro he; rw [he, hi] at hj; cases hj), h.hm, h.st, h.nx, without_wf id h.wf⟩

theorem appNew_bytes {s : St} {y : Value} {ly : List UInt8} (hy : Bytes s y ly) : appNew 1 y s = some (ly.length, ly.map u8v) := by
  rcases hy with ⟨rfl, rfl⟩ | ⟨a, c, rfl, _, _, h⟩
  · rfl
  · unfold appNew
    simp only [Nat.mul_one, h, Option.bind_some]

theorem append_row {ty yt e : TypeId} (hT : U8T P ty e) {dy : TypeDesc} (hyt : P.underlying yt = some dy) (hni : notInt dy = true) {s0 s : St} {x y : Value} {lx ly : List UInt8} (hG : Grows s0 s) (hx : Row e s x lx) (hf : Fresh s0 x) (hy : Bytes s y ly)
    (hlen : lx.length + ly.length ≤ 1099511627776) :
    ∃ v s', eAppend P ty yt x y s = some (v, s') ∧ Grows s0 s' ∧ Row e s' v (lx ++ ly) ∧ Fresh s0 v ∧ (ly ≠ [] → v ≠ .slice none 0 0) ∧ (x ≠ .slice none 0 0 → v ≠ .slice none 0 0) ∧ (∀ id b, s.h.get id = some b → (∀ a n c, x = .slice (some a) n c → a.block ≠ id) → s'.h.get id = some b) := by
  obtain ⟨inf, hi, hib⟩ := Option.map_eq_some_iff.1 hT.inf
  obtain ⟨h1, h2⟩ := Prod.mk.inj hib
  have hck : (notInt dy && Nat.beq (Value.int IntKind.u8 0).cells.toList.length 1 && !Nat.beq 1 0 && !Nat.beq 1 0) = true := by
    rw [hni]; rfl
  have happ := appNew_bytes hy
  have hle : Nat.ble (lx.length + ly.length) 1099511627776 = true := Nat.ble_eq_true_of_le hlen
  unfold eAppend
  simp only [hT.und, Option.bind_some, sliceE, hi, hT.zero, hyt, h1, h2, hck, ck, cond_true, Nat.mul_one]
  rcases hx with ⟨rfl, rfl⟩ | ⟨id, b, rfl, hb, hbn, hro, hex, hc⟩
  · -- a nil slice
    simp only [happ, Option.bind_some]
    simp only [List.length_nil, Nat.zero_add] at hle
    simp only [Nat.zero_add, hle, cond_true, Option.bind_some]
    cases ly with
    | nil =>
      refine ⟨_, s, rfl, hG, Row.nil e s, Fresh.nil _ _ _, by simp, by simp, fun id b h _ => h⟩
    | cons c r =>
      have hne : Nat.beq (c :: r).length 0 = false := rfl
      simp only [hne]
      refine ⟨_, _, rfl, hG.with _, ?_, ?_, by simp, by simp, fun id b h _ => with_old _ hG.wf h⟩
      · exact grown_row e false (c :: r) s
      · rintro a n c' h
        simp only [Value.slice.injEq, Option.some.injEq] at h
        obtain ⟨rfl, _⟩ := h
        exact hG.fresh_new
  · simp only [happ, Option.bind_some, hle, cond_true]
    have hfid := hf ⟨id, 0, none⟩ _ _ rfl
    cases ly with
    | nil =>
      simp only [List.length_nil, Nat.beq_eq_true_eq, Nat.ble_eq_true_of_le (Nat.le_refl lx.length), cond_true, Option.bind_some, List.append_nil]
      exact ⟨_, s, rfl, hG, .inr ⟨id, b, rfl, hb, hbn, hro, hex, hc⟩, hf, by simp, by simp, fun id b h _ => h⟩
    | cons c r =>
      have hne : Nat.beq (c :: r).length 0 = false := rfl
      have hroom : Nat.ble (lx.length + (c :: r).length) lx.length = false := by
        rw [Bool.eq_false_iff]; intro h; have := Nat.le_of_ble_eq_true h; simp at this; omega
      simp only [hne, hroom, hb, Option.bind_some, Nat.mul_one, hc]
      have hml : lx.map u8v ++ (c :: r).map u8v = (lx ++ (c :: r)).map u8v := by simp
      cases hbe : b.exact with
      | true =>
        simp only []
        refine ⟨_, _, rfl, hG.with _, ?_, ?_, by simp, by simp, fun id b h _ => with_old _ hG.wf h⟩
        · rw [hml]
          have := grown_row e false (lx ++ (c :: r)) s
          rwa [List.length_append] at this
        · rintro a n c' h
          simp only [Value.slice.injEq, Option.some.injEq] at h
          obtain ⟨rfl, _⟩ := h
          exact hG.fresh_new
      | false =>
        obtain ⟨e1, e2⟩ := hex hbe
        simp only [e1, e2, hro, Nat.beq_refl, Bool.not_false, Bool.and_self, cond_true, Option.bind_some]
        have hG' := hG.without hfid
        refine ⟨_, (s.without id).with (grownBlk e 1 b.strish (lx.map u8v ++ (c :: r).map u8v)), rfl, hG'.with _, ?_, ?_, by simp, by simp, fun id' b' h hne' => ?_⟩
        · rw [hml]
          have := grown_row e b.strish (lx ++ (c :: r)) (s.without id)
          rwa [List.length_append] at this
        · rintro a n c' h
          simp only [Value.slice.injEq, Option.some.injEq] at h
          obtain ⟨rfl, _⟩ := h
          exact hG'.fresh_new
        · refine with_old _ hG'.wf ?_
          rw [without_get, if_neg (fun he => hne' _ _ _ rfl he.symm)]
          exact h

/-- '[]byte{}' -/
theorem buildSlice_nil {ty e : TypeId} (hT : U8T P ty e) {s0 s : St} (hG : Grows s0 s) : ∃ v s', eBuildSlice P ty 0 [] s = some (v, s') ∧ Grows s s' ∧ Row e s' v [] ∧ Fresh s v ∧ v ≠ .slice none 0 0 := by
  obtain ⟨inf, hi, hib⟩ := Option.map_eq_some_iff.1 hT.inf
  obtain ⟨h1, h2⟩ := Prod.mk.inj hib
  have hsz : sizeT P e = some 1 := by unfold sizeT; rw [hi]; simp [h1]
  refine ⟨.slice (some ⟨2 * s.nx, 0, none⟩) 0 0, s.with (rowBlk e []), ?_, with_grows _ hG.wf, ?_, ?_, by simp⟩
  · unfold eBuildSlice
    simp only [hT.und, Option.bind_some, sliceE, hsz, hT.zero, Instr.fill]
    kernel_rfl
  · exact made_row e [] s
  · rintro a n c h
    simp only [Value.slice.injEq, Option.some.injEq] at h
    obtain ⟨rfl, _⟩ := h
    exact hG.wf.new

/-- '[]byte{c}' -/
theorem buildSlice_one {ty e : TypeId} (hT : U8T P ty e) {s0 s : St} (hG : Grows s0 s) (c : UInt8) : ∃ v s', eBuildSlice P ty 1 [(0, u8v c)] s = some (v, s') ∧ Grows s s' ∧ Row e s' v [c] ∧ Fresh s v ∧ v ≠ .slice none 0 0 := by
  obtain ⟨inf, hi, hib⟩ := Option.map_eq_some_iff.1 hT.inf
  obtain ⟨h1, h2⟩ := Prod.mk.inj hib
  have hsz : sizeT P e = some 1 := by unfold sizeT; rw [hi]; simp [h1]
  refine ⟨.slice (some ⟨2 * s.nx, 0, none⟩) 1 1, s.with (rowBlk e ([c].map u8v)), ?_, with_grows _ hG.wf, ?_, ?_, by simp⟩
  · unfold eBuildSlice
    simp only [hT.und, Option.bind_some, sliceE, hsz, hT.zero, Instr.fill]
    kernel_rfl
  · exact made_row e [c] s
  · rintro a n c h
    simp only [Value.slice.injEq, Option.some.injEq] at h
    obtain ⟨rfl, _⟩ := h
    exact hG.wf.new

theorem Bytes.keep {s s' : St} {v : Value} {l : List UInt8} (h : Bytes s v l) (hk : ∀ a n c b, v = .slice (some a) n c → s.h.get a.block = some b → s'.h.get a.block = some b) : Bytes s' v l := by
  rcases h with ⟨h1, h2⟩ | ⟨a, c, h1, h2, h3, h4⟩
  · exact .inl ⟨h1, h2⟩
  · refine .inr ⟨a, c, h1, h2, h3, ?_⟩
    unfold St.loads at h4 ⊢
    obtain ⟨b, hb, hc⟩ := Option.bind_eq_some_iff.1 h4
    rw [hk a _ c b h1 hb]; exact hc

theorem get_set_eq {α : Type} (t : PT α) (k : Nat) (v : Option α) : (t.set k v).get k = v := by rw [PT.get_set, if_pos rfl]

theorem Row.grows {e : TypeId} {s s' : St} (h : Grows s s') {v : Value} {l : List UInt8} (hb : Row e s v l) : Row e s' v l := by
  rcases hb with h' | ⟨id, b, h1, h2, h3⟩
  · exact .inl h'
  · exact .inr ⟨id, b, h1, h.keep _ _ h2, h3⟩
theorem Row.keep {e : TypeId} {s s' : St} {v : Value} {l : List UInt8} (hb : Row e s v l) (hk : ∀ a n c b, v = .slice (some a) n c → s.h.get a.block = some b → s'.h.get a.block = some b) : Row e s' v l := by
  rcases hb with h' | ⟨id, b, h1, h2, h3⟩
  · exact .inl h'
  · exact .inr ⟨id, b, h1, hk _ _ _ b h1 h2, h3⟩
theorem Fresh.of {s0 s1 : St} {v : Value} (h : Fresh s1 v) (hg : Grows s0 s1) : Fresh s0 v := fun a n c hv => by
  cases hh : s0.h.get a.block with
  | none => rfl
  | some b => have := hg.keep _ _ hh; rw [h a n c hv] at this; cases this
/-- What came into being since is not what was there. -/
theorem Fresh.ne {s : St} {v x : Value} {l : List UInt8} (h : Fresh s v) (hx : Bytes s x l) : ∀ a n c a' n' c', v = .slice (some a) n c → x = .slice (some a') n' c' → a.block ≠ a'.block := by
  intro a n c a' n' c' hv hx' he
  rcases hx with ⟨h1, _⟩ | ⟨a2, c2, h1, _, _, h4⟩
  · rw [h1] at hx'; cases hx'
  · rw [h1] at hx'
    simp only [Value.slice.injEq, Option.some.injEq] at hx'
    obtain ⟨rfl, _, _⟩ := hx'
    unfold St.loads at h4
    obtain ⟨b, hb, _⟩ := Option.bind_eq_some_iff.1 h4
    rw [← he, h a n c hv] at hb; cases hb
theorem len_bytes {P : Program} {ty e : TypeId} (hT : U8T P ty e) {s : St} {v : Value} {l : List UInt8} (h : Bytes s v l) : eLen P ty v s = some (.int .i64 (l.length : Int), s) := by
  unfold eLen
  rw [hT.und]
  rcases h with ⟨rfl, rfl⟩ | ⟨a, c, rfl, _, _, _⟩ <;> rfl
theorem bytesOf_map : ∀ (l : List UInt8), bytesOf (l.map u8v) = some l
  | [] => rfl
  | c :: r => by
    have ih := bytesOf_map r
    simp only [List.map_cons, u8v, bytesOf] at ih ⊢
    rw [ih]
    simp
theorem conv_bytes {P : Program} {ty e st : TypeId} (hT : U8T P ty e) (hst : P.underlying st = some .string) {s : St} {v : Value} {l : List UInt8} (h : Bytes s v l) : eToString P ty st v s = some (.string ⟨l.toArray⟩, s) := by
  unfold eToString
  rw [hT.und, hst]
  rcases h with ⟨rfl, rfl⟩ | ⟨a, c, rfl, _, _, h4⟩
  · simp only [Option.bind_some, hT.el]; rfl
  · simp only [Option.bind_some, hT.el, h4]
    rw [bytesOf_map]; rfl
theorem condP_true (x y : Prop) : condP (.bool true) x y = x := by simp [condP]
theorem condP_false (x y : Prop) : condP (.bool false) x y = y := by simp [condP]
theorem condP_dec (p : Prop) [Decidable p] (x y : Prop) : condP (.bool (decide p)) x y = if p then x else y := by
  by_cases h : p <;> simp [condP, h]
theorem condP_eq (b : Bool) (x y : Prop) : condP (.bool b) x y = if b = true then x else y := by cases b <;> simp [condP]

end Go.AE
