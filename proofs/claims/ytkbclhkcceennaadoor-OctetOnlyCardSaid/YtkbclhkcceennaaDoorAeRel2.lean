import Derived.Test.YtkbclhkcceennaaDoorAeRel
set_option linter.unusedSimpArgs false
set_option linter.unusedVariables false
namespace Go.AE
open Go Go.RowKit

def upd {α : Type} (g : Nat → Option α) (k : Nat) (v : Option α) : Nat → Option α := fun j => if j = k then v else g j
theorem upd_same {α : Type} (g : Nat → Option α) (k : Nat) (v : Option α) : upd g k v k = v := by simp [upd]
theorem upd_ne {α : Type} (g : Nat → Option α) {k j : Nat} (v : Option α) (h : j ≠ k) : upd g k v j = g j := by simp [upd, h]

/-- What must stay as it is: the world at the beginning; blocks that nobody may write (K), those of them that are read as read-only blocks (R); numbers that nobody may take (F). -/
structure KW where
  w : World
  K : Nat → Prop
  R : Nat → Prop
  F : Nat → Prop
  sub : ∀ k, R k → K k
  lt : ∀ k, K k → k < w.heap.size

structure Keeps (w0 : KW) (w : World) : Prop where
  os : w.os = w0.w.os
  tape : w.tape = w0.w.tape
  output : w.output = w0.w.output
  size : w0.w.heap.size ≤ w.heap.size
  keep : ∀ k, w0.K k → w.heap[k]? = w0.w.heap[k]?

theorem Keeps.refl (w0 : KW) : Keeps w0 w0.w := ⟨rfl, rfl, rfl, Nat.le_refl _, fun _ _ => rfl⟩
theorem Keeps.step {w0 : KW} {w w' : World} (h : Keeps w0 w) (h1 : w'.os = w.os) (h2 : w'.tape = w.tape) (h3 : w'.output = w.output) (h4 : w.heap.size ≤ w'.heap.size) (h5 : ∀ k, w0.K k → w'.heap[k]? = w.heap[k]?) : Keeps w0 w' :=
  ⟨h1.trans h.os, h2.trans h.tape, h3.trans h.output, Nat.le_trans h.size h4, fun k hk => (h5 k hk).trans (h.keep k hk)⟩
theorem Keeps.lt {w0 : KW} {w : World} (h : Keeps w0 w) {k : Nat} (hk : w0.K k) : k < w.heap.size := Nat.lt_of_lt_of_le (w0.lt k hk) h.size
theorem Keeps.alloc {w0 : KW} {w : World} (h : Keeps w0 w) (o : Obj) : Keeps w0 (w.alloc o) :=
  h.step rfl rfl rfl (by show _ ≤ (w.heap.push o).size; simp) fun k hk => Below.heap_alloc w o k (h.lt hk)
theorem Keeps.setCell {w0 : KW} {w : World} (h : Keeps w0 w) {p : Addr} (hp : ¬ w0.K p.block) (v : Value) : Keeps w0 (w.setCell p v) :=
  h.step rfl rfl rfl (by simp [World.setCell]) fun k hk => Below.heap_setCell w p v k (fun e => hp (e ▸ hk))
theorem Keeps.new {w0 : KW} {w : World} (h : Keeps w0 w) : ¬ w0.K w.heap.size := fun hk => Nat.lt_irrefl _ (h.lt hk)

structure BlkRel (w0 : KW) (m : Map) (w : World) (l : Loc) (b : Blk) : Prop where
  ex : l.exact = b.exact
  es : b.exact = false → l.esz = b.esz
  obj : ∃ cs fr t, (b.exact = false → t = b.elem) ∧ w.heap[l.blk]? = some (.cells cs t fr) ∧ cs.size = l.cs ∧ l.sh + b.n ≤ cs.size ∧
    (∀ i v, b.cell i = some v → ∃ v', cs[l.sh + i]? = some v' ∧ VR m v v' ∧ oneCell v = true) ∧ (b.ro = false → fr = (0, 0) ∨ (b.strish = true ∧ fr = (cs.size, cs.size + 1)))
  lo : b.ro = false → ¬ w0.K l.blk
  hi : b.ro = true → w0.R l.blk

structure RelH (w0 : KW) (m : Map) (g : Nat → Option Blk) (gm : Nat → Option (Array MapEntry × Nat)) (w : World) : Prop where
  below : Keeps w0 w
  res : ∀ id, w0.F id → m id = none
  blk : ∀ id b, g id = some b → ∃ l, m id = some l ∧ BlkRel w0 m w l b
  inj : ∀ i j bi bj li lj, g i = some bi → g j = some bj → m i = some li → m j = some lj → li.blk = lj.blk → bi.ro = false ∨ bj.ro = false → i = j
  maps : ∀ id x, gm id = some x → ∃ l, m id = some l ∧ w.heap[l.blk]? = some (.map x.1 x.2) ∧ ¬ w0.K l.blk
  minj : ∀ i j bi bj li lj, gm i = some bi → gm j = some bj → m i = some li → m j = some lj → li.blk = lj.blk → i = j

structure Rel (w0 : KW) (m : Map) (s : St) (w : World) : Prop extends RelH w0 m s.h.get s.hm.get w where
  pos : 0 < s.st
  fresh : ∀ k, m (2 * (s.nx + s.st * k)) = none ∧ ¬ w0.F (2 * (s.nx + s.st * k))

theorem Rel.fresh0 {w0 : KW} {m : Map} {s : St} {w : World} (h : Rel w0 m s w) : m (2 * s.nx) = none ∧ ¬ w0.F (2 * s.nx) := by
  have := h.fresh 0
  simpa using this
theorem Rel.fresh1 {w0 : KW} {m : Map} {s : St} {w : World} (h : Rel w0 m s w) (k : Nat) : m (2 * (s.nx + s.st + s.st * k)) = none ∧ ¬ w0.F (2 * (s.nx + s.st + s.st * k)) ∧ 2 * (s.nx + s.st + s.st * k) ≠ 2 * s.nx := by
  have := h.fresh (k + 1)
  rw [Nat.mul_succ, show s.nx + (s.st * k + s.st) = s.nx + s.st + s.st * k from by omega] at this
  exact ⟨this.1, this.2, by have := h.pos; omega⟩

theorem ck_some {b : Bool} {u : Unit} (h : ck b = some u) : b = true := by
  cases b with
  | true => rfl
  | false => cases h

theorem Addr_add (b o : Nat) (n : Nat) : (⟨b, o, none⟩ : Addr).add n = ⟨b, o + n, none⟩ := by unfold Addr.add; split <;> simp_all
theorem Addr_add' (a : Addr) (h : a.spot = none) (n : Nat) : a.add n = ⟨a.block, a.off + n, none⟩ := by
  obtain ⟨b, o, s⟩ := a; simp at h; subst h; exact Addr_add b o n

theorem BlkRel.mono {w0 : KW} {m m' : Map} (hm : m.le m') {w : World} {l : Loc} {b : Blk} (h : BlkRel w0 m w l b) : BlkRel w0 m' w l b := by
  obtain ⟨cs, fr, t0, te, h1, h2, h3, h4, h5⟩ := h.obj
  exact ⟨h.ex, h.es, ⟨cs, fr, t0, te, h1, h2, h3, fun i v hv => let ⟨v', a, c, d⟩ := h4 i v hv; ⟨v', a, c.mono hm, d⟩, h5⟩, h.lo, h.hi⟩
theorem BlkRel.world {w0 : KW} {m : Map} {w w' : World} {l : Loc} {b : Blk} (h : BlkRel w0 m w l b) (hw : w'.heap[l.blk]? = w.heap[l.blk]?) : BlkRel w0 m w' l b := by
  obtain ⟨cs, fr, t0, te, h1, h2⟩ := h.obj
  exact ⟨h.ex, h.es, ⟨cs, fr, t0, te, hw.trans h1, h2⟩, h.lo, h.hi⟩
theorem BlkRel.lt {w0 : KW} {m : Map} {w : World} {l : Loc} {b : Blk} (h : BlkRel w0 m w l b) : l.blk < w.heap.size := by
  obtain ⟨cs, fr, t0, te, h1, _⟩ := h.obj
  rcases Nat.lt_or_ge l.blk w.heap.size with h' | h'
  · exact h'
  · rw [Array.getElem?_eq_none h'] at h1; cases h1

theorem Rel.congr {w0 : KW} {m : Map} {s s' : St} {w : World} (h : Rel w0 m s w) (hh : s'.h.get = s.h.get) (hhm : s'.hm = s.hm) (hn : s'.nx = s.nx) (hl : s'.st = s.st) : Rel w0 m s' w := by
  have h1 := h.toRelH
  rw [← hh, ← hhm] at h1
  exact ⟨h1, by rw [hl]; exact h.pos, by rw [hl, hn]; exact h.fresh⟩

/-- A world in which only the count of draws is another. -/
theorem Rel.heap_same {w0 : KW} {m : Map} {s : St} {w w' : World} (h : Rel w0 m s w) (hb : Keeps w0 w') (hw : w'.heap = w.heap) : Rel w0 m s w' :=
  ⟨⟨hb, h.res, fun id b hb => let ⟨l, h1, h2⟩ := h.blk id b hb; ⟨l, h1, h2.world (by rw [hw])⟩, h.inj, fun id x hx => let ⟨l, h1, h2, h3⟩ := h.maps id x hx; ⟨l, h1, by rw [hw]; exact h2, h3⟩, h.minj⟩, h.pos, h.fresh⟩

theorem Rel.drew {w0 : KW} {m : Map} {s : St} {w : World} (h : Rel w0 m s w) : Rel w0 m s { w with drawn := w.drawn + 1 } :=
  h.heap_same (h.below.step rfl rfl rfl (Nat.le_refl _) fun _ _ => rfl) rfl

theorem alloc_eq {s : St} {b : Blk} {id : Nat} {s' : St} (h : s.alloc b = some (id, s')) : id = 2 * s.nx ∧ s' = { s with h := s.h.set (2 * s.nx) (some b), nx := s.nx + s.st } := by
  unfold St.alloc at h
  simp only [Option.some.injEq, Prod.mk.injEq] at h
  exact ⟨h.1.symm, h.2.symm⟩

theorem heap_lt {w : World} {k : Nat} {o : Obj} (h : w.heap[k]? = some o) : k < w.heap.size := by
  rcases Nat.lt_or_ge k w.heap.size with h' | h'
  · exact h'
  · rw [Array.getElem?_eq_none h'] at h; cases h

theorem Map.le_upd {m : Map} {k : Nat} (hk : m k = none) (l : Loc) : m.le (upd m k (some l)) := fun i x hx => by
  rw [upd_ne _ _ (by rintro rfl; rw [hk] at hx; cases hx)]; exact hx

/-- A new block. -/
theorem Rel.alloc {w0 : KW} {m : Map} {s : St} {w : World} (h : Rel w0 m s w) {b : Blk} {id : Nat} {s' : St} (ha : s.alloc b = some (id, s')) (cs : Array Value) (fr : Nat × Nat) (hn : b.n ≤ cs.size) (hro : b.ro = false)
    (hc : ∀ i v, b.cell i = some v → ∃ v', cs[i]? = some v' ∧ VR m v v' ∧ oneCell v = true) (hf : fr = (0, 0) ∨ (b.strish = true ∧ fr = (cs.size, cs.size + 1))) :
    ∃ m', m.le m' ∧ m' id = some ⟨w.heap.size, 0, b.exact, cs.size, b.esz⟩ ∧ Rel w0 m' s' (w.alloc (.cells cs b.elem fr)) := by
  obtain ⟨rfl, rfl⟩ := alloc_eq ha
  obtain ⟨hnew, hnF⟩ := h.fresh0
  have hle := Map.le_upd hnew ⟨w.heap.size, 0, b.exact, cs.size, b.esz⟩
  have hwn : (w.alloc (.cells cs b.elem fr)).heap[w.heap.size]? = some (.cells cs b.elem fr) := by
    show (w.heap.push _)[w.heap.size]? = _
    simp
  refine ⟨_, hle, upd_same _ _ _, ⟨⟨h.below.alloc _, fun i hi => ?_, fun i bi hi => ?_, fun i j bi bj li lj hi hj hli hlj hb hro2 => ?_, fun i x hx => ?_, fun i j bi bj li lj hi hj hli hlj hb => ?_⟩, h.pos, fun k => ?_⟩⟩
  · rw [upd_ne _ _ (by rintro rfl; exact hnF hi)]; exact h.res i hi
  · simp only [PT.get_set] at hi
    by_cases e : i = 2 * s.nx
    · subst e
      rw [if_pos rfl] at hi; cases hi
      refine ⟨_, upd_same _ _ _, ⟨rfl, fun _ => rfl, ⟨cs, fr, _, fun _ => rfl, hwn, rfl, by simpa using hn, fun i v hv => ?_, fun _ => hf⟩, fun _ => h.below.new, fun hx => by rw [hro] at hx; cases hx⟩⟩
      obtain ⟨v', a, c, d⟩ := hc i v hv
      exact ⟨v', by simpa using a, c.mono hle, d⟩
    · rw [if_neg e] at hi
      obtain ⟨l, h1, h2⟩ := h.blk i bi hi
      exact ⟨l, hle _ _ h1, (h2.mono hle).world (Below.heap_alloc _ _ _ h2.lt)⟩
  · simp only [PT.get_set] at hi hj
    have old : ∀ {k : Nat} {bk : Blk} {lk : Loc}, k ≠ 2 * s.nx → (if k = 2 * s.nx then some b else s.h.get k) = some bk → upd m (2 * s.nx) (some ⟨w.heap.size, 0, b.exact, cs.size, b.esz⟩) k = some lk → lk.blk < w.heap.size := fun {k bk lk} hk h1 h2 => by
      rw [if_neg hk] at h1
      rw [upd_ne _ _ hk] at h2
      obtain ⟨l, h3, h4⟩ := h.blk k bk h1
      rw [h2] at h3; cases h3; exact h4.lt
    by_cases ei : i = 2 * s.nx
    · by_cases ej : j = 2 * s.nx
      · rw [ei, ej]
      · have h1 := old ej hj hlj
        rw [ei, upd_same] at hli; cases hli
        simp only at hb; omega
    · by_cases ej : j = 2 * s.nx
      · have h1 := old ei hi hli
        rw [ej, upd_same] at hlj; cases hlj
        simp only at hb; omega
      · rw [if_neg ei] at hi; rw [if_neg ej] at hj
        rw [upd_ne _ _ ei] at hli; rw [upd_ne _ _ ej] at hlj
        exact h.inj i j bi bj li lj hi hj hli hlj hb hro2
  · obtain ⟨l, h1, h2, h3⟩ := h.maps i x hx
    exact ⟨l, hle _ _ h1, by rw [Below.heap_alloc _ _ _ (heap_lt h2)]; exact h2, h3⟩
  · have old : ∀ {k : Nat} {mk : Array MapEntry × Nat} {lk : Loc}, s.hm.get k = some mk → upd m (2 * s.nx) (some ⟨w.heap.size, 0, b.exact, cs.size, b.esz⟩) k = some lk → m k = some lk := fun {k mk lk} h1 h2 => by
      obtain ⟨l, h3, _⟩ := h.maps k mk h1
      have := hle _ _ h3
      rw [h2] at this; cases this; exact h3
    exact h.minj i j bi bj li lj hi hj (old hi hli) (old hj hlj) hb
  · obtain ⟨k1, k2, k3⟩ := h.fresh1 k
    exact ⟨by simp only; rw [upd_ne _ _ k3]; exact k1, k2⟩

theorem heap_setCell_at (w : World) (k o : Nat) (v : Value) (cs : Array Value) (t : TypeId) (fr : Nat × Nat) (h : w.heap[k]? = some (.cells cs t fr)) :
    (w.setCell ⟨k, o, none⟩ v).heap[k]? = some (.cells (cs.setIfInBounds o v) t fr) := by
  have hk : k < w.heap.size := by
    rcases Nat.lt_or_ge k w.heap.size with h' | h'
    · exact h'
    · rw [Array.getElem?_eq_none h'] at h; cases h
  simp [World.setCell, Array.getElem?_modify, h]

/-- One cell is written. -/
theorem Rel.store1 {w0 : KW} {m : Map} {s : St} {w : World} (h : Rel w0 m s w) {id : Nat} {b b' : Blk} {l : Loc} (hb : s.h.get id = some b) (hl : m id = some l) (hro : b.ro = false) {o : Nat} (ho : o < b.n) {v v' : Value} (hv : VR m v v') (h1 : oneCell v = true)
    (hb' : b'.n = b.n ∧ b'.elem = b.elem ∧ b'.exact = b.exact ∧ b'.esz = b.esz ∧ b'.strish = b.strish ∧ b'.ro = b.ro ∧ ∀ i, b'.cell i = if i = o then some v else b.cell i) (s' : St) (hs : s'.h.get = upd s.h.get id (some b')) (hhm : s'.hm = s.hm) (hn : s'.nx = s.nx) (hlm : s'.st = s.st) :
    Rel w0 m s' (w.setCell ⟨l.blk, l.sh + o, none⟩ v') := by
  obtain ⟨l2, hl2, hbr⟩ := h.blk id b hb
  rw [hl] at hl2; cases hl2
  have hB := hbr.lo hro
  obtain ⟨cs, fr, t0, te, c1, c2, c3, c4, c5⟩ := hbr.obj
  obtain ⟨e1, e2, e3, e4, e5, e6, e7⟩ := hb'
  refine ⟨⟨h.below.setCell (by simpa using hB) _, h.res, fun i bi hi => ?_, fun i j bi bj li lj hi hj => ?_, fun i x hx => ?_, by rw [hhm]; exact h.minj⟩, by rw [hlm]; exact h.pos, by rw [hn, hlm]; exact h.fresh⟩
  · rw [hs] at hi
    by_cases e : i = id
    · subst e
      rw [upd_same] at hi; cases hi
      refine ⟨l, hl, ⟨by rw [hbr.ex, e3], fun hx => by rw [e4]; exact hbr.es (e3 ▸ hx), ⟨cs.setIfInBounds (l.sh + o) v', fr, t0, fun hx => by rw [e2]; exact te (e3 ▸ hx), by rw [heap_setCell_at _ _ _ _ _ _ _ c1], by simpa using c2, by rw [e1]; simpa using c3, fun i u hu => ?_, by rw [e5, e6]; simpa using c5⟩, fun hr => hbr.lo (e6 ▸ hr), fun hr => hbr.hi (e6 ▸ hr)⟩⟩
      rw [e7] at hu
      by_cases ei : i = o
      · subst ei
        rw [if_pos rfl] at hu; cases hu
        exact ⟨v', by rw [Array.getElem?_setIfInBounds_self_of_lt (by omega)], hv, h1⟩
      · rw [if_neg ei] at hu
        obtain ⟨u', k1, k2, k3⟩ := c4 i u hu
        exact ⟨u', by rw [Array.getElem?_setIfInBounds_ne (by omega)]; exact k1, k2, k3⟩
    · rw [upd_ne _ _ e] at hi
      obtain ⟨li, k1, k2⟩ := h.blk i bi hi
      exact ⟨li, k1, k2.world (Below.heap_setCell _ _ _ _ (fun hx => e (h.inj i id bi b li l hi hb k1 hl hx (.inr hro))))⟩
  · rw [hs] at hi hj
    have ex : ∀ {k : Nat} {bk : Blk}, upd s.h.get id (some b') k = some bk → ∃ bk', s.h.get k = some bk' ∧ bk'.ro = bk.ro := fun {k bk} hk => by
      by_cases e : k = id
      · rw [e, upd_same] at hk; cases hk
        exact ⟨b, by rw [e]; exact hb, e6.symm⟩
      · rw [upd_ne _ _ e] at hk; exact ⟨bk, hk, rfl⟩
    obtain ⟨bi', hi', ri⟩ := ex hi
    obtain ⟨bj', hj', rj⟩ := ex hj
    rw [← ri, ← rj]
    exact h.inj i j bi' bj' li lj hi' hj'
  · rw [hhm] at hx
    obtain ⟨li, k1, k2, k3⟩ := h.maps i x hx
    refine ⟨li, k1, ?_, k3⟩
    rw [Below.heap_setCell _ _ _ _ (fun hx => by simp only at hx; rw [hx, c1] at k2; cases k2)]; exact k2

theorem Blk.cell_set (b : Blk) (t : PT Value) (o : Nat) (v : Value) (ho : o < b.n) (ht : t.get = upd b.t.get o (some v)) (i : Nat) : ({ b with t := t } : Blk).cell i = if i = o then some v else b.cell i := by
  unfold Blk.cell
  simp only [ht]
  by_cases e : i = o
  · subst e
    have : Nat.blt i b.n = true := by simpa [Nat.blt_eq] using ho
    simp [this, upd_same]
  · rw [if_neg e, upd_ne _ _ e]

theorem PT.get_set' {α : Type} (t : PT α) (k : Nat) (v : Option α) : (t.set k v).get = upd t.get k v := funext fun j => PT.get_set t k v j

/-- A row of cells is written. -/
theorem Rel.stores {w0 : KW} {m : Map} : ∀ {vs vs' : List Value} {s : St} {w : World} {id : Nat} {b : Blk} {l : Loc} {o : Nat} (s' : St), Rel w0 m s w → s.h.get id = some b → m id = some l → b.ro = false → o + vs.length ≤ b.n → VRs m vs vs' → vs.all oneCell = true →
    s'.h.get = upd s.h.get id (some { b with t := setCells b.t o vs }) → s'.hm = s.hm → s'.nx = s.nx → s'.st = s.st → Rel w0 m s' (w.setCells l.blk (l.sh + o) vs')
  | [], [], s, w, id, b, l, o, s', h, hb, hl, hro, ho, hv, h1, hs, hhm, hn, hlm => by
    refine (h.congr (funext fun i => ?_) hhm hn hlm)
    rw [hs]
    by_cases e : i = id
    · subst e; rw [upd_same, hb]; rfl
    · rw [upd_ne _ _ e]
  | v :: vs, v' :: vs', s, w, id, b, l, o, s', h, hb, hl, hro, ho, hv, h1, hs, hhm, hn, hlm => by
    simp only [List.length_cons] at ho
    simp only [List.all_cons, Bool.and_eq_true] at h1
    have hst := h.store1 (b' := { b with t := b.t.set o (some v) }) hb hl hro (o := o) (by omega) hv.uncons.1 h1.1
      ⟨rfl, rfl, rfl, rfl, rfl, rfl, Blk.cell_set b _ o v (by omega) (PT.get_set' _ _ _)⟩ { s with h := s.h.set id (some { b with t := b.t.set o (some v) }) } (PT.get_set' _ _ _) rfl rfl rfl
    have := Rel.stores (o := o + 1) (b := { b with t := b.t.set o (some v) }) s' hst (by simp [PT.get_set]) hl hro (by simpa using by omega) hv.uncons.2 h1.2
      (by rw [hs]; funext i; by_cases e : i = id
          · subst e; rw [upd_same, upd_same]; rfl
          · rw [upd_ne _ _ e, upd_ne _ _ e]; simp [PT.get_set, e]) hhm hn hlm
    simpa [World.setCells, Nat.add_assoc] using this
  | [], _ :: _, _, _, _, _, _, _, _, _, _, _, _, _, hv, _, _, _, _, _ => by have := hv.1; simp at this
  | _ :: _, [], _, _, _, _, _, _, _, _, _, _, _, _, hv, _, _, _, _, _ => by have := hv.1; simp at this

theorem Rel.cell {w0 : KW} {m : Map} {s : St} {w : World} (h : Rel w0 m s w) {id : Nat} {b : Blk} {l : Loc} (hb : s.h.get id = some b) (hl : m id = some l) {i : Nat} {v : Value} (hc : b.cell i = some v) :
    ∃ v', w.cell? ⟨l.blk, l.sh + i, none⟩ = some v' ∧ VR m v v' ∧ oneCell v = true := by
  obtain ⟨l2, hl2, hbr⟩ := h.blk id b hb
  rw [hl] at hl2; cases hl2
  obtain ⟨cs, fr, t0, te, c1, c2, c3, c4, c5⟩ := hbr.obj
  obtain ⟨v', k1, k2, k3⟩ := c4 i v hc
  exact ⟨v', by simp [World.cell?, c1, k1], k2, k3⟩

theorem Rel.cellsAt {w0 : KW} {m : Map} {s : St} {w : World} (h : Rel w0 m s w) {id : Nat} {b : Blk} {l : Loc} (hb : s.h.get id = some b) (hl : m id = some l) : ∀ (n i : Nat) (vs : List Value), b.cells i n = some vs →
    vs.length = n ∧ ∃ vs', VRs m vs vs' ∧ vs.all oneCell = true ∧ ∀ (j : Nat) v', vs'[j]? = some v' → w.cell? ⟨l.blk, l.sh + i + j, none⟩ = some v'
  | 0, i, vs, hc => by
    simp only [Blk.cells, Option.some.injEq] at hc; subst hc
    exact ⟨rfl, [], VRs.nil m, rfl, fun j v' hj => by simp at hj⟩
  | n + 1, i, vs, hc => by
    simp only [Blk.cells] at hc
    · obtain ⟨v, hv, hc⟩ := Option.bind_eq_some_iff.1 hc
      · obtain ⟨r, hr, hc⟩ := Option.bind_eq_some_iff.1 hc
        simp only [Option.some.injEq] at hc; subst hc
        obtain ⟨h0, r', h1, h2, h3⟩ := Rel.cellsAt h hb hl n (i + 1) r hr
        obtain ⟨v', k1, k2, k3⟩ := h.cell hb hl hv
        refine ⟨by simp [h0], v' :: r', VRs.cons k2 h1, by simp [k3, h2], fun j u hj => ?_⟩
        cases j with
        | zero => simp at hj; subst hj; simpa using k1
        | succ j => have := h3 j u (by simpa using hj); rwa [show l.sh + i + (j + 1) = l.sh + (i + 1) + j from by omega]

/-- Cells that are read. -/
theorem Rel.loads {w0 : KW} {m : Map} {s : St} {w : World} (h : Rel w0 m s w) {a : Addr} {l : Loc} (hl : m a.block = some l) {n : Nat} {vs : List Value} (hc : s.loads a n = some vs) :
    vs.length = n ∧ ∃ vs', VRs m vs vs' ∧ vs.all oneCell = true ∧ ∀ (j : Nat) v', vs'[j]? = some v' → w.cell? ((⟨l.blk, l.sh + a.off, none⟩ : Addr).add j) = some v' := by
  unfold St.loads at hc
  · obtain ⟨b, hb, hc⟩ := Option.bind_eq_some_iff.1 hc
    obtain ⟨h0, vs', h1, h2, h3⟩ := h.cellsAt hb hl n a.off vs hc
    exact ⟨h0, vs', h1, h2, fun j v' hj => by rw [Addr_add]; exact h3 j v' hj⟩
theorem Rel.load {w0 : KW} {m : Map} {s : St} {w : World} (h : Rel w0 m s w) {a : Addr} {l : Loc} (hl : m a.block = some l) {v : Value} (hc : s.load a = some v) :
    ∃ v', w.cell? ⟨l.blk, l.sh + a.off, none⟩ = some v' ∧ VR m v v' ∧ oneCell v = true := by
  unfold St.load at hc
  · obtain ⟨b, hb, hc⟩ := Option.bind_eq_some_iff.1 hc
    exact h.cell hb hl hc

/-- The run that reads them. -/
theorem Rel.run_loads {w0 : KW} {m : Map} {s : St} {w : World} (P : Program) (h : Rel w0 m s w) {a : Addr} {l : Loc} (hl : m a.block = some l) {n : Nat} {vs : List Value} (hc : s.loads a n = some vs) :
    ∃ vs', VRs m vs vs' ∧ vs.all oneCell = true ∧ vs.length = n ∧ (loadCells ⟨l.blk, l.sh + a.off, none⟩ n).run P w = .ok vs'.toArray w := by
  obtain ⟨h0, vs', h1, h2, h3⟩ := h.loads hl hc
  refine ⟨vs', h1, h2, h0, ?_⟩
  have hn : n = vs'.length := by rw [← h0, h1.1]
  rw [hn]
  exact run_loadCells_list w ⟨l.blk, l.sh + a.off, none⟩ vs' h3

/-- What a store asks, and does. -/
theorem Rel.run_stores {w0 : KW} {m : Map} {s s' : St} {w : World} (P : Program) (h : Rel w0 m s w) {a : Addr} {l : Loc} (hl : m a.block = some l) {vs vs' : List Value} (hv : VRs m vs vs') (hst : s.stores a vs = some s') :
    (storeCells ⟨l.blk, l.sh + a.off, none⟩ vs').run P w = .ok () (w.setCells l.blk (l.sh + a.off) vs') ∧ Rel w0 m s' (w.setCells l.blk (l.sh + a.off) vs') := by
  unfold St.stores at hst
  obtain ⟨b, hb, hst⟩ := Option.bind_eq_some_iff.1 hst
  obtain ⟨_, hck, hst⟩ := Option.bind_eq_some_iff.1 hst
  have hck := ck_some hck
  simp only [Bool.and_eq_true, Bool.not_eq_true'] at hck
  obtain ⟨⟨hro, hle⟩, h1⟩ := hck
  simp only [Option.some.injEq] at hst; subst hst
  have hle' : a.off + vs.length ≤ b.n := Nat.le_of_ble_eq_true hle
  obtain ⟨l2, hl2, hbr⟩ := h.blk _ b hb
  rw [hl] at hl2; cases hl2
  obtain ⟨cs, fr, t0, te, c1, c2, c3, c4, c5⟩ := hbr.obj
  refine ⟨?_, Rel.stores _ h hb hl hro hle' hv h1 (PT.get_set' _ _ _) rfl rfl rfl⟩
  have := run_storeCells_cells (P := P) l.blk (l.sh + a.off) vs' 0 w (fun j hj => ?_) (fun j hj => ?_) (fun v hv2 => ?_)
  · simpa using this
  · have : l.sh + a.off + j < cs.size := by rw [← hv.1] at hj; omega
    simp [World.cell?, c1, this]
  · have : l.sh + a.off + 0 + j < cs.size := by rw [← hv.1] at hj; omega
    rcases c5 hro with rfl | ⟨_, rfl⟩ <;> simp [World.frozen?, c1]
    omega
  · obtain ⟨i, hi⟩ := List.mem_iff_getElem?.1 hv2
    have hi' : i < vs.length := by
      rw [hv.1]
      rcases Nat.lt_or_ge i vs'.length with h' | h'
      · exact h'
      · rw [List.getElem?_eq_none h'] at hi; cases hi
    have := hv.2 i _ _ (List.getElem?_eq_getElem hi') hi
    rw [this.one']
    exact all_mem h1 _ (List.getElem_mem hi')

end Go.AE
