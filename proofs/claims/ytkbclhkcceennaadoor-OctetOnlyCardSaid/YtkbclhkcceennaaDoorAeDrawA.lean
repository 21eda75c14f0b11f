import Derived.Test.YtkbclhkcceennaaDoorAeDraw
import Derived.Test.YtkbclhkcceennaaDoorAeCode
set_option linter.unusedSimpArgs false
set_option linter.unusedVariables false
namespace Go.AE
open Go Go.RowKit

/-! ### a part of the heap, and what is put together again -/
def join {α : Type} (hs' hs g : Nat → Option α) : Nat → Option α := fun id =>
  match hs' id with
  | some b => some b
  | none => match hs id with
    | some _ => none
    | none => g id

theorem join_some {α : Type} {hs' hs g : Nat → Option α} {id : Nat} {b : α} (h : join hs' hs g id = some b) : hs' id = some b ∨ (hs' id = none ∧ hs id = none ∧ g id = some b) := by
  unfold join at h
  cases h1 : hs' id with
  | some x => rw [h1] at h; cases h; exact .inl rfl
  | none =>
    rw [h1] at h
    cases h2 : hs id with
    | some x => rw [h2] at h; cases h
    | none => rw [h2] at h; exact .inr ⟨rfl, rfl, h⟩

theorem RelH.part {w0 : KW} {m : Map} {g g' : Nat → Option Blk} {gm gm' : Nat → Option (Array MapEntry × Nat)} {w : World} (h : RelH w0 m g gm w) (h1 : ∀ id b, g' id = some b → g id = some b) (h2 : ∀ id x, gm' id = some x → gm id = some x) : RelH w0 m g' gm' w :=
  ⟨h.below, h.res, fun id b hb => h.blk id b (h1 id b hb), fun i j bi bj li lj hi hj => h.inj i j bi bj li lj (h1 _ _ hi) (h1 _ _ hj), fun id x hx => h.maps id x (h2 id x hx), fun i j bi bj li lj hi hj => h.minj i j bi bj li lj (h2 _ _ hi) (h2 _ _ hj)⟩

theorem RelH.cells {w0 : KW} {m : Map} {g : Nat → Option Blk} {gm : Nat → Option (Array MapEntry × Nat)} {w : World} (h : RelH w0 m g gm w) {id : Nat} {b : Blk} {l : Loc} (hb : g id = some b) (hl : m id = some l) : ∃ cs t fr, w.heap[l.blk]? = some (.cells cs t fr) := by
  obtain ⟨l2, h1, h2⟩ := h.blk id b hb
  rw [hl] at h1; cases h1
  obtain ⟨cs, fr, t, _, h3, _⟩ := h2.obj
  exact ⟨cs, t, fr, h3⟩
theorem RelH.mapAt {w0 : KW} {m : Map} {g : Nat → Option Blk} {gm : Nat → Option (Array MapEntry × Nat)} {w : World} (h : RelH w0 m g gm w) {id : Nat} {x : Array MapEntry × Nat} {l : Loc} (hb : gm id = some x) (hl : m id = some l) : w.heap[l.blk]? = some (.map x.1 x.2) ∧ ¬ w0.K l.blk := by
  obtain ⟨l2, h1, h2⟩ := h.maps id x hb
  rw [hl] at h1; cases h1
  exact h2
theorem RelH.blkAt {w0 : KW} {m : Map} {g : Nat → Option Blk} {gm : Nat → Option (Array MapEntry × Nat)} {w : World} (h : RelH w0 m g gm w) {id : Nat} {b : Blk} {l : Loc} (hb : g id = some b) (hl : m id = some l) : BlkRel w0 m w l b := by
  obtain ⟨l2, h1, h2⟩ := h.blk id b hb
  rw [hl] at h1; cases h1
  exact h2

/-- A part is worked on; the rest stays. -/
theorem RelH.split {w0 : KW} {m : Map} {g : Nat → Option Blk} {gm : Nat → Option (Array MapEntry × Nat)} {w : World} (h : RelH w0 m g gm w) (hs : Nat → Option Blk) (hms : Nat → Option (Array MapEntry × Nat))
    (h1 : ∀ id b, hs id = some b → g id = some b) (h2 : ∀ id x, hms id = some x → gm id = some x) (F' : Nat → Prop) (hF : ∀ id, w0.F id → F' id) (hFm : ∀ id, F' id → m id = none) :
    ∃ w0' : KW, w0'.F = F' ∧ RelH w0' m hs hms w ∧ ∀ m' hs' hms' w', m.le m' → RelH w0' m' hs' hms' w' → RelH w0 m' (join hs' hs g) (join hms' hms gm) w' := by
  let K' : Nat → Prop := fun k => w0.K k ∨ (∃ id b l, g id = some b ∧ hs id = none ∧ b.ro = false ∧ m id = some l ∧ l.blk = k) ∨ (∃ id x l, gm id = some x ∧ hms id = none ∧ m id = some l ∧ l.blk = k)
  have hlt : ∀ k, K' k → k < w.heap.size := by
    rintro k (hk | ⟨id, b, l, a1, _, _, a4, rfl⟩ | ⟨id, x, l, a1, _, a3, rfl⟩)
    · exact h.below.lt hk
    · exact (h.blkAt a1 a4).lt
    · exact heap_lt (h.mapAt a1 a3).1
  refine ⟨⟨w, K', w0.R, F', fun k hk => .inl (w0.sub k hk), hlt⟩, rfl, ⟨⟨rfl, rfl, rfl, Nat.le_refl _, fun _ _ => rfl⟩, hFm, fun id b hb => ?_, fun i j bi bj li lj hi hj => h.inj i j bi bj li lj (h1 _ _ hi) (h1 _ _ hj), fun id x hx => ?_, fun i j bi bj li lj hi hj => h.minj i j bi bj li lj (h2 _ _ hi) (h2 _ _ hj)⟩, ?_⟩
  · obtain ⟨l, k1, k2⟩ := h.blk id b (h1 id b hb)
    refine ⟨l, k1, ⟨k2.ex, k2.es, k2.obj, fun hro => ?_, k2.hi⟩⟩
    rintro (hk | ⟨id2, b2, l2, a1, a2, a3, a4, a5⟩ | ⟨id2, x, l2, a1, a2, a3, a4⟩)
    · exact k2.lo hro hk
    · have := h.inj id id2 b b2 l l2 (h1 id b hb) a1 k1 a4 a5.symm (.inl hro)
      subst this
      rw [hb] at a2; cases a2
    · obtain ⟨cs, t, fr, c⟩ := h.cells (h1 id b hb) k1
      have := (h.mapAt a1 a3).1
      rw [a4, c] at this; cases this
  · obtain ⟨l, k1, k2, k3⟩ := h.maps id x (h2 id x hx)
    refine ⟨l, k1, k2, ?_⟩
    rintro (hk | ⟨id2, b2, l2, a1, a2, a3, a4, a5⟩ | ⟨id2, x2, l2, a1, a2, a3, a4⟩)
    · exact k3 hk
    · obtain ⟨cs, t, fr, c⟩ := h.cells a1 a4
      rw [a5, k2] at c; cases c
    · have := h.minj id id2 x x2 l l2 (h2 id x hx) a1 k1 a3 a4.symm
      subst this
      rw [hx] at a2; cases a2
  · intro m' hs' hms' w' hle hR
    have keep : ∀ k, K' k → w'.heap[k]? = w.heap[k]? := fun k hk => hR.below.keep k hk
    -- where the rest lies
    have restB : ∀ {id : Nat} {b : Blk}, hs id = none → g id = some b → ∃ l, m id = some l ∧ m' id = some l ∧ BlkRel w0 m' w' l b ∧ (b.ro = false → K' l.blk) := fun {id b} a1 a2 => by
      obtain ⟨l, k1, k2⟩ := h.blk id b a2
      have hK : K' l.blk := by
        cases hro : b.ro with
        | false => exact .inr (.inl ⟨id, b, l, a2, a1, hro, k1, rfl⟩)
        | true => exact .inl (w0.sub _ (k2.hi hro))
      exact ⟨l, k1, hle _ _ k1, (k2.mono hle).world (keep _ hK), fun _ => hK⟩
    have newB : ∀ {id : Nat} {b : Blk}, hs' id = some b → ∃ l, m' id = some l ∧ BlkRel w0 m' w' l b ∧ (b.ro = false → ¬ K' l.blk) := fun {id b} a1 => by
      obtain ⟨l, k1, k2⟩ := hR.blk id b a1
      exact ⟨l, k1, ⟨k2.ex, k2.es, k2.obj, fun hro hk => k2.lo hro (.inl hk), k2.hi⟩, k2.lo⟩
    refine ⟨?_, fun id hid => hR.res id (hF id hid), fun id b hb => ?_, fun i j bi bj li lj hi hj hli hlj hbb hro => ?_, fun id x hx => ?_, fun i j xi xj li lj hi hj hli hlj hbb => ?_⟩
    · exact h.below.step hR.below.os hR.below.tape hR.below.output hR.below.size fun k hk => keep k (.inl hk)
    · rcases join_some hb with hb | ⟨_, a1, a2⟩
      · obtain ⟨l, k1, k2, _⟩ := newB hb; exact ⟨l, k1, k2⟩
      · obtain ⟨l, _, k1, k2, _⟩ := restB a1 a2; exact ⟨l, k1, k2⟩
    · rcases join_some hi with hi | ⟨_, a1, a2⟩
      · rcases join_some hj with hj | ⟨_, c1, c2⟩
        · exact hR.inj i j bi bj li lj hi hj hli hlj hbb hro
        · exfalso
          obtain ⟨l, k1, k2, k3⟩ := newB hi
          rw [hli] at k1; cases k1
          obtain ⟨l', q0, q1, q2, q3⟩ := restB c1 c2
          rw [hlj] at q1; cases q1
          cases hri : bi.ro with
          | false =>
            cases hrj : bj.ro with
            | false => exact k3 hri (hbb ▸ q3 hrj)
            | true => exact k2.lo hri (hbb ▸ w0.sub _ (q2.hi hrj))
          | true =>
            cases hrj : bj.ro with
            | false => exact q2.lo hrj (hbb ▸ w0.sub _ (k2.hi hri))
            | true => rw [hri, hrj] at hro; rcases hro with h | h <;> cases h
      · rcases join_some hj with hj | ⟨_, c1, c2⟩
        · exfalso
          obtain ⟨l, k1, k2, k3⟩ := newB hj
          rw [hlj] at k1; cases k1
          obtain ⟨l', q0, q1, q2, q3⟩ := restB a1 a2
          rw [hli] at q1; cases q1
          cases hrj : bj.ro with
          | false =>
            cases hri : bi.ro with
            | false => exact k3 hrj (hbb ▸ q3 hri)
            | true => exact k2.lo hrj (hbb ▸ w0.sub _ (q2.hi hri))
          | true =>
            cases hri : bi.ro with
            | false => exact q2.lo hri (hbb ▸ w0.sub _ (k2.hi hrj))
            | true => rw [hri, hrj] at hro; rcases hro with h | h <;> cases h
        · obtain ⟨l, q0, q1, _⟩ := restB a1 a2
          rw [hli] at q1; cases q1
          obtain ⟨l', r0, r1, _⟩ := restB c1 c2
          rw [hlj] at r1; cases r1
          exact h.inj i j bi bj li lj a2 c2 q0 r0 hbb hro
    · rcases join_some hx with hx | ⟨_, a1, a2⟩
      · obtain ⟨l, k1, k2, k3⟩ := hR.maps id x hx
        exact ⟨l, k1, k2, fun hk => k3 (.inl hk)⟩
      · obtain ⟨l, k1, k2, k3⟩ := h.maps id x a2
        exact ⟨l, hle _ _ k1, by rw [keep _ (.inr (.inr ⟨id, x, l, a2, a1, k1, rfl⟩))]; exact k2, k3⟩
    · rcases join_some hi with hi | ⟨_, a1, a2⟩
      · rcases join_some hj with hj | ⟨_, c1, c2⟩
        · exact hR.minj i j xi xj li lj hi hj hli hlj hbb
        · exfalso
          obtain ⟨l, k1, k2, k3⟩ := hR.maps i xi hi
          rw [hli] at k1; cases k1
          obtain ⟨l', q1, _⟩ := h.maps j xj c2
          have := hle _ _ q1
          rw [hlj] at this; cases this
          exact k3 (.inr (.inr ⟨j, xj, lj, c2, c1, q1, hbb.symm⟩))
      · rcases join_some hj with hj | ⟨_, c1, c2⟩
        · exfalso
          obtain ⟨l, k1, k2, k3⟩ := hR.maps j xj hj
          rw [hlj] at k1; cases k1
          obtain ⟨l', q1, _⟩ := h.maps i xi a2
          have := hle _ _ q1
          rw [hli] at this; cases this
          exact k3 (.inr (.inr ⟨i, xi, li, a2, a1, q1, hbb⟩))
        · obtain ⟨l, q1, _⟩ := h.maps i xi a2
          have e1 := hle _ _ q1
          rw [hli] at e1; cases e1
          obtain ⟨l', r1, _⟩ := h.maps j xj c2
          have e2 := hle _ _ r1
          rw [hlj] at e2; cases e2
          exact h.minj i j xi xj li lj a2 c2 q1 r1 hbb

/-! ### what stands before -/
theorem edgeMask_testBit (ms : List Nat) (f : Nat) : ∀ (es : List Edge) (s : Nat), (es.foldl (fun s e => cond (Region.binds .any e) (s ||| (2 ^ e.on ||| ms.getD e.on 0)) s) s).testBit f = (s.testBit f || es.any fun e => Region.binds .any e && (decide (e.on = f) || (ms.getD e.on 0).testBit f))
  | [], s => by simp
  | e :: es, s => by
    simp only [List.foldl_cons, List.any_cons]
    rw [edgeMask_testBit ms f es]
    cases hb : Region.binds .any e with
    | false => simp
    | true =>
      simp only [cond_true, Bool.true_and, Nat.testBit_or, Nat.testBit_two_pow]
      simp only [Bool.or_assoc]

theorem masksF_spec : ∀ (l : List Oper) (ms : List Nat), (masksF l ms).length = ms.length + l.length ∧ (∀ k, k < ms.length → (masksF l ms)[k]? = ms[k]?) ∧
    ∀ k o, l[k]? = some o → (masksF l ms)[ms.length + k]? = some (edgeMask ((masksF l ms).take (ms.length + k)) o.after.toList)
  | [], ms => ⟨by simp [masksF], fun k _ => rfl, fun k o h => by simp at h⟩
  | o :: l, ms => by
    obtain ⟨h1, h2, h3⟩ := masksF_spec l (ms ++ [edgeMask ms o.after.toList])
    simp only [masksF]
    simp only [List.length_append, List.length_singleton] at h1 h2 h3
    refine ⟨by rw [h1]; simp; omega, fun k hk => by rw [h2 k (by omega), List.getElem?_append_left hk], fun k o' ho => ?_⟩
    cases k with
    | zero =>
      simp only [List.getElem?_cons_zero, Option.some.injEq] at ho
      subst ho
      rw [Nat.add_zero, h2 ms.length (by omega), List.getElem?_append_right (Nat.le_refl _)]
      simp only [Nat.sub_self, List.getElem?_cons_zero, Option.some.injEq]
      congr 1
      apply List.ext_getElem?
      intro q
      rw [List.getElem?_take]
      split
      · rename_i hq
        rw [h2 q (by omega), List.getElem?_append_left hq]
      · rename_i hq
        rw [List.getElem?_eq_none (by omega)]
    | succ k =>
      have := h3 k o' (by simpa using ho)
      rw [show ms.length + (k + 1) = ms.length + 1 + k from by omega]
      exact this

variable {P : Program} {ops : Array Oper}

theorem anc_spec {i : Nat} {o : Oper} (ho : ops[i]? = some o) (hback : ∀ e ∈ o.after, Region.binds .any e = true → e.on < i) (f : Nat) :
    anc ops i f = true ↔ ∃ e ∈ o.after, Region.binds .any e = true ∧ (e.on = f ∨ anc ops e.on f = true) := by
  have hm := (masksF_spec ops.toList []).2.2 i o (by simpa using ho)
  simp only [List.length_nil, Nat.zero_add] at hm
  have hget : (masks ops).getD i 0 = edgeMask ((masks ops).take i) o.after.toList := by
    unfold masks
    rw [List.getD_eq_getElem?_getD, hm]
    rfl
  unfold anc
  rw [hget, edgeMask, edgeMask_testBit]
  simp only [Nat.zero_testBit, Bool.false_or, List.any_eq_true, Bool.and_eq_true, Bool.or_eq_true, decide_eq_true_eq, Array.mem_toList_iff]
  have tk : ∀ q, q < i → ((masks ops).take i).getD q 0 = (masks ops).getD q 0 := fun q hq => by
    rw [List.getD_eq_getElem?_getD, List.getD_eq_getElem?_getD, List.getElem?_take, if_pos hq]
  constructor
  · rintro ⟨e, he, hb, h⟩
    rw [tk _ (hback e he hb)] at h
    exact ⟨e, he, hb, h⟩
  · rintro ⟨e, he, hb, h⟩
    refine ⟨e, he, hb, ?_⟩
    rw [tk _ (hback e he hb)]
    exact h

structure DOk (P : Program) (ops : Array Oper) : Prop where
  back : ∀ (i : Nat) (o : Oper), ops[i]? = some o → ∀ e ∈ o.after, Region.binds .any e = true → e.on < i
  loud : ∀ (i k : Nat) (o o' : Oper), ops[i]? = some o → ops[k]? = some o' → isLoud P o.op = true → isLoud P o'.op = true → k < i → anc ops i k = true
  tmps : ∀ (i k : Nat) (o o' : Oper) (d : Tmp), ops[i]? = some o → ops[k]? = some o' → d ∈ o.looksAt ops → o'.dst = some d → anc ops i k = true ∨ anc ops k i = true
  dst : ∀ (i k : Nat) (o o' : Oper) (d : Tmp), ops[i]? = some o → ops[k]? = some o' → o.dst = some d → o'.dst = some d → i = k
  sel : ∀ (i : Nat) (o : Oper), ops[i]? = some o → ∀ cs b, o.op ≠ .select cs b

theorem mem_zip {i : Nat} {o : Oper} (h : ops[i]? = some o) : (o, i) ∈ ops.toList.zipIdx := by
  rw [List.mem_zipIdx_iff_getElem?]
  simpa using h

theorem dOk_spec (h : dOk P ops = true) : DOk P ops := by
  simp only [dOk, Bool.and_eq_true] at h
  obtain ⟨⟨⟨⟨h1, h2⟩, h3⟩, h4⟩, h5⟩ := h
  refine ⟨fun i o ho e he hb => ?_, fun i k o o' ho ho' hl hl' hk => ?_, fun i k o o' d ho ho' hd hd' => ?_, fun i k o o' d ho ho' hd hd' => ?_, fun i o ho cs b hs => ?_⟩
  · have := List.all_eq_true.1 (List.all_eq_true.1 h1 _ (mem_zip ho)) e (by simpa using he)
    rw [hb] at this
    exact blt_lt (by simpa using this)
  · have := List.all_eq_true.1 h2 _ (mem_zip ho)
    simp only [hl, Bool.not_true, Bool.false_or] at this
    have := List.all_eq_true.1 this _ (mem_zip ho')
    simp only [hl', Bool.true_and] at this
    rw [show Nat.blt k i = true from by simpa [Nat.blt_eq] using hk] at this
    simpa using this
  · have := List.all_eq_true.1 (List.all_eq_true.1 (List.all_eq_true.1 h3 _ (mem_zip ho)) d hd) _ (mem_zip ho')
    simp only [hd', beq_self_eq_true, Bool.not_true, Bool.false_or, Bool.or_eq_true] at this
    exact this
  · have := List.all_eq_true.1 h4 _ (mem_zip ho)
    simp only [hd] at this
    have := List.all_eq_true.1 this _ (mem_zip ho')
    simp only [hd', beq_self_eq_true, Bool.not_true, Bool.or_false] at this
    exact Nat.eq_of_beq_eq_true this
  · have := List.all_eq_true.1 h5 _ (mem_zip ho)
    simp only [hs] at this
    cases this

theorem DOk.anc_lt (h : DOk P ops) : ∀ (i f : Nat) o, ops[i]? = some o → anc ops i f = true → f < i := by
  intro i
  induction i using Nat.strongRecOn with
  | _ i ih =>
    intro f o ho hf
    obtain ⟨e, he, hb, hx⟩ := (anc_spec ho (h.back i o ho) f).1 hf
    have hlt := h.back i o ho e he hb
    rcases hx with rfl | hx
    · exact hlt
    · have hlen : e.on < ops.size := by
        have : i < ops.size := by
          rcases Nat.lt_or_ge i ops.size with h' | h'
          · exact h'
          · rw [Array.getElem?_eq_none h'] at ho; cases ho
        omega
      have := ih e.on hlt f _ (Array.getElem?_eq_getElem hlen) hx
      omega

/-! ### the records -/
theorem heapAt_append (s : St) (j : Nat) : ∀ (rs more : List Rec), (∀ r ∈ more, r.lw = true → j ≤ r.j) → heapAt s (rs ++ more) j = heapAt s rs j
  | [], [], _ => rfl
  | [], r :: more, h => by
    have := heapAt_append s j [] more (fun r hr => h r (by simp [hr]))
    simp only [List.nil_append, heapAt] at this ⊢
    rw [this]
    have hf : (r.lw && Nat.beq (r.j + 1) j) = false := by
      cases hl : r.lw with
      | false => rfl
      | true =>
        have := h r (by simp) hl
        simp only [Bool.true_and]
        rw [Bool.eq_false_iff]; intro hb
        have := Nat.eq_of_beq_eq_true hb
        omega
    rw [hf]; rfl
  | r :: rs, more, h => by
    simp only [List.cons_append, heapAt]
    rw [heapAt_append s j rs more h]
theorem insd_append (rs more : List Rec) (j : Nat) (h : ∀ r ∈ more, r.lw = true → j ≤ r.j) : insd ops (rs ++ more) j = insd ops rs j := by
  funext f
  unfold insd
  rw [List.any_append]
  have : (more.any fun r => r.lw && Nat.blt r.j j && anc ops r.i f) = false := by
    rw [List.any_eq_false]
    intro r hr
    cases hl : r.lw with
    | false => simp
    | true =>
      have := h r hr hl
      have : Nat.blt r.j j = false := by rw [Bool.eq_false_iff]; intro hb; have := blt_lt hb; omega
      simp [this]
  rw [this, Bool.or_false]
theorem viewF_append (s : St) (ins mask : Nat → Bool) : ∀ (rs more : List Rec) (h : PT Blk), viewF s ins mask (rs ++ more) h = viewF s ins mask more (viewF s ins mask rs h)
  | [], more, h => rfl
  | r :: rs, more, h => by
    simp only [List.cons_append, viewF]
    cases r.b with
    | none => exact viewF_append s ins mask rs more h
    | some b => exact viewF_append s ins mask rs more _
theorem viewF_none (s : St) (ins mask : Nat → Bool) : ∀ (rs : List Rec) (h : PT Blk), (∀ r ∈ rs, mask r.i = false) → viewF s ins mask rs h = h
  | [], h, _ => rfl
  | r :: rs, h, hm => by
    simp only [viewF]
    cases r.b with
    | none => exact viewF_none s ins mask rs h fun q hq => hm q (by simp [hq])
    | some b =>
      simp only [hm r (by simp), Bool.false_and, cond_false]
      exact viewF_none s ins mask rs h fun q hq => hm q (by simp [hq])
theorem view_append (s : St) (rs more : List Rec) (mask : Nat → Bool) (j : Nat) (h : ∀ r ∈ more, r.lw = true → j ≤ r.j) (hm : ∀ r ∈ more, mask r.i = false) : view s ops (rs ++ more) mask j = view s ops rs mask j := by
  unfold view
  rw [heapAt_append s j rs more h, insd_append rs more j h, viewF_append, viewF_none _ _ _ more _ hm]

/-- What lies in a view: what lies in the loud ones' heap, and what was made and not yet taken in. -/
theorem viewF_get (s : St) (ins mask : Nat → Bool) (id : Nat) (b : Blk) : ∀ (rs : List Rec) (h : PT Blk), (viewF s ins mask rs h).get id = some b →
    h.get id = some b ∨ ∃ r ∈ rs, r.b = some b ∧ mask r.i = true ∧ ins r.i = false ∧ id = 2 * (s.nx + s.st * r.i)
  | [], h, hg => .inl hg
  | r :: rs, h, hg => by
    simp only [viewF] at hg
    cases hb : r.b with
    | none =>
      rw [hb] at hg
      rcases viewF_get s ins mask id b rs h hg with h1 | ⟨q, h1, h2⟩
      · exact .inl h1
      · exact .inr ⟨q, by simp [h1], h2⟩
    | some b0 =>
      rw [hb] at hg
      simp only at hg
      rcases viewF_get s ins mask id b rs _ hg with h1 | ⟨q, h1, h2⟩
      · cases hc : (mask r.i && !ins r.i) with
        | false => rw [hc] at h1; exact .inl h1
        | true =>
          rw [hc, cond_true, PT.get_set] at h1
          simp only [Bool.and_eq_true, Bool.not_eq_true'] at hc
          by_cases e : id = 2 * (s.nx + s.st * r.i)
          · rw [if_pos e] at h1
            exact .inr ⟨r, by simp, by rw [hb]; exact h1, hc.1, hc.2, e⟩
          · rw [if_neg e] at h1; exact .inl h1
      · exact .inr ⟨q, by simp [h1], h2⟩

/-- And it does lie there. -/
theorem viewF_has (s : St) (ins mask : Nat → Bool) (id : Nat) : ∀ (rs : List Rec) (h : PT Blk), (∀ r ∈ rs, r.b.isSome = true → mask r.i = true → ins r.i = false → id ≠ 2 * (s.nx + s.st * r.i)) → (viewF s ins mask rs h).get id = h.get id
  | [], h, _ => rfl
  | r :: rs, h, hn => by
    simp only [viewF]
    cases hb : r.b with
    | none => exact viewF_has s ins mask id rs h fun q hq => hn q (by simp [hq])
    | some b0 =>
      simp only
      rw [viewF_has s ins mask id rs _ fun q hq => hn q (by simp [hq])]
      cases hc : (mask r.i && !ins r.i) with
      | false => rfl
      | true =>
        simp only [Bool.and_eq_true, Bool.not_eq_true'] at hc
        rw [cond_true, PT.get_set, if_neg (hn r (by simp) (by rw [hb]; rfl) hc.1 hc.2)]
theorem viewF_made (s : St) (hst : 0 < s.st) (ins mask : Nat → Bool) : ∀ (rs : List Rec) (h : PT Blk), (∀ p q : Nat, ∀ r r', rs[p]? = some r → rs[q]? = some r' → r.i = r'.i → p = q) → ∀ r ∈ rs, ∀ b, r.b = some b → mask r.i = true → ins r.i = false → (viewF s ins mask rs h).get (2 * (s.nx + s.st * r.i)) = some b
  | [], h, _, r, hr, _, _, _, _ => by cases hr
  | r0 :: rs, h, hd, r, hr, b, hb, hm, hi => by
    have hd' : ∀ p q : Nat, ∀ r r', rs[p]? = some r → rs[q]? = some r' → r.i = r'.i → p = q := fun p q r r' h1 h2 h3 => by
      have := hd (p + 1) (q + 1) r r' (by simpa using h1) (by simpa using h2) h3
      omega
    rcases List.mem_cons.1 hr with rfl | hr
    · simp only [viewF, hb, hm, hi, Bool.not_false, Bool.and_self, cond_true]
      rw [viewF_has s ins mask _ rs _ fun q hq _ _ _ e => ?_, PT.get_set, if_pos rfl]
      obtain ⟨p, hp⟩ := List.mem_iff_getElem?.1 hq
      have he : r.i = q.i := by
        have h1 : s.st * r.i = s.st * q.i := by omega
        exact Nat.eq_of_mul_eq_mul_left hst h1
      have := hd 0 (p + 1) r q rfl (by simpa using hp) he
      omega
    · simp only [viewF]
      cases r0.b with
      | none => exact viewF_made s hst ins mask rs h hd' r hr b hb hm hi
      | some b0 => exact viewF_made s hst ins mask rs _ hd' r hr b hb hm hi

end Go.AE
