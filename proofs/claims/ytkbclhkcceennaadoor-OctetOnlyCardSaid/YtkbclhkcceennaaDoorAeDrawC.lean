import Derived.Test.YtkbclhkcceennaaDoorAeDrawB
set_option linter.unusedSimpArgs false
set_option linter.unusedVariables false
namespace Go.AE
open Go Go.RowKit

variable {P : Program} {cf : CallF} {s : St} {ops : Array Oper} {f0 : FS} {rs : List Rec} {f : FS} {ds : List Deferred} {w0 : KW} {m0 : Map}

/-- The state in the midst of the region: 'L' has come up. -/
structure Inv (ds : List Deferred) (s : St) (ops : Array Oper) (f0 : FS) (rs : List Rec) (w0 : KW) (m0 : Map) (listed : Array Bool) (a : Act) (w : World) (m : Map) (J : Nat) (cur : Nat → Nat) : Prop where
  le : m0.le m
  glob : Glob m
  rel : RelH w0 m (view s ops rs (fun i => listed.getD i false) J).get (heapAt s rs J).2.get w
  hj : ∀ r ∈ rs, r.lw = true → (listed.getD r.i false = true ↔ r.j < J)
  hJ : J ≤ nLoud rs
  ns : ∀ i, i ≤ ops.size → (∃ q, cur i = s.nx + s.st * i + s.st * (ops.size + 1) * q) ∧ ∀ k, m (2 * (cur i + s.st * (ops.size + 1) * k)) = none
  done : ∀ r ∈ rs, listed.getD r.i false = true → cur r.i = r.e
  todo : ∀ i, i ≤ ops.size → listed.getD i false = false → cur i = s.nx + s.st * i
  closed : ∀ i f, listed.getD i false = true → anc ops i f = true → listed.getD f false = true
  tmps : ∀ d, VR m (tmpS f0 rs (fun i => listed.getD i false) d) (a.tmps.getD d undef)
  size : a.tmps.size = f0.nt
  defers : a.defers = ds
  lsz : listed.size = ops.size

theorem class_ne {nx st n1 i i' q q' : Nat} (hst : 0 < st) (hi : i < n1) (hi' : i' < n1) (hne : i ≠ i') : nx + st * i + st * n1 * q ≠ nx + st * i' + st * n1 * q' := by
  intro h
  have h1 : st * (i + n1 * q) = st * (i' + n1 * q') := by
    rw [Nat.mul_add, Nat.mul_add, ← Nat.mul_assoc, ← Nat.mul_assoc]; omega
  have h2 := Nat.eq_of_mul_eq_mul_left hst h1
  have h3 : (i + n1 * q) % n1 = (i' + n1 * q') % n1 := by rw [h2]
  rw [Nat.add_mul_mod_self_left, Nat.add_mul_mod_self_left, Nat.mod_eq_of_lt hi, Nat.mod_eq_of_lt hi'] at h3
  exact hne h3

theorem getD_set_self {listed : Array Bool} {i : Nat} (h : i < listed.size) (d : Bool) : (listed.setIfInBounds i true).getD i d = true := by
  simp [Array.getD, h]

section
variable (hg : Good P cf s ops f0 rs f) (hlen : rs.length = ops.size) (hd : DOk P ops) (hst : 0 < s.st)

/-- The temporaries that an operation looks at are, in whatever order, those that it had in the text's order. -/
theorem tmp_same (hg : Good P cf s ops f0 rs f) (hlen : rs.length = ops.size) (hd : DOk P ops) {listed : Array Bool} (hcl : ∀ i f, listed.getD i false = true → anc ops i f = true → listed.getD f false = true) {r : Rec} (hr : r ∈ rs) (hn : listed.getD r.i false = false)
    (hanc : ∀ f, anc ops r.i f = true → listed.getD f false = true) {d : Nat} (hdl : d ∈ r.o.looksAt ops) : ρof r.t (.tmp d) = tmpS f0 rs (fun i => listed.getD i false) d := by
  have hri := hg.mem hlen hd hr
  obtain ⟨_, ho, _⟩ := hg.idx hlen hd hri
  rw [(hg.rec' r.i r hri).2.2.1]
  unfold tmpAt tmpS
  by_cases hw : ∃ q ∈ rs, q.o.dst = some d
  · obtain ⟨q, hq, hqd⟩ := hw
    have hqi := hg.mem hlen hd hq
    obtain ⟨_, hqo, _⟩ := hg.idx hlen hd hqi
    rcases hd.tmps r.i q.i r.o q.o d ho hqo hdl hqd with ha | ha
    · have hlt := hd.anc_lt _ _ _ ho ha
      have hqt : q ∈ rs.take r.i := by
        rw [List.mem_iff_getElem?]
        exact ⟨q.i, by rw [List.getElem?_take, if_pos hlt]; exact hqi⟩
      rw [foldl_one (fun r => r.o.dst = some d) (·.v) _ _ q hqt hqd (fun x hx hxd => hg.writer hlen hd (List.mem_of_mem_take hx) hq hxd hqd)]
      rw [foldl_one (fun r => r.o.dst = some d ∧ listed.getD r.i false = true) (·.v) _ _ q hq ⟨hqd, hanc _ ha⟩ (fun x hx hxd => hg.writer hlen hd hx hq hxd.1 hqd)]
    · have hlt := hd.anc_lt _ _ _ hqo ha
      have hnq : listed.getD q.i false = false := by
        cases hh : listed.getD q.i false with
        | false => rfl
        | true => have := hcl _ _ hh ha; rw [hn] at this; cases this
      rw [foldl_none (fun r => r.o.dst = some d) (·.v) _ _ (fun x hx hxd => by
        have := hg.writer hlen hd (List.mem_of_mem_take hx) hq hxd hqd
        subst this
        obtain ⟨k, hk⟩ := List.mem_iff_getElem?.1 hx
        rw [List.getElem?_take] at hk
        split at hk
        · rename_i hlt2
          have := (hg.idx hlen hd hk).1
          omega
        · cases hk)]
      rw [foldl_none (fun r => r.o.dst = some d ∧ listed.getD r.i false = true) (·.v) _ _ (fun x hx hxd => by
        have := hg.writer hlen hd hx hq hxd.1 hqd
        subst this
        have h2 := hxd.2
        rw [hnq] at h2; cases h2)]
  · rw [foldl_none (fun r => r.o.dst = some d) (·.v) _ _ (fun x hx hxd => hw ⟨x, List.mem_of_mem_take hx, hxd⟩),
      foldl_none (fun r => r.o.dst = some d ∧ listed.getD r.i false = true) (·.v) _ _ (fun x hx hxd => hw ⟨x, hx, hxd.1⟩)]

/-- The temporaries behind an operation. -/
theorem tmp_next (hg : Good P cf s ops f0 rs f) (hlen : rs.length = ops.size) (hd : DOk P ops) {listed : Array Bool} (hlsz : listed.size = ops.size) {r : Rec} (hr : r ∈ rs) (d : Nat) :
    tmpS f0 rs (fun i => (listed.setIfInBounds r.i true).getD i false) d = if r.o.dst = some d then r.v else tmpS f0 rs (fun i => listed.getD i false) d := by
  have hri := hg.mem hlen hd hr
  have hlt : r.i < listed.size := by
    rw [hlsz, ← hlen]
    rcases Nat.lt_or_ge r.i rs.length with h' | h'
    · exact h'
    · rw [List.getElem?_eq_none h'] at hri; cases hri
  have hset : ∀ q ∈ rs, q ≠ r → (listed.setIfInBounds r.i true).getD q.i false = listed.getD q.i false := fun q hq hne => getD_set_ne false (fun e => hne (hg.inj hlen hd hq hr e.symm))
  unfold tmpS
  by_cases hrd : r.o.dst = some d
  · rw [if_pos hrd]
    exact foldl_one (fun q => q.o.dst = some d ∧ (listed.setIfInBounds r.i true).getD q.i false = true) (·.v) _ _ r hr ⟨hrd, getD_set_self hlt _⟩ (fun x hx hxd => hg.writer hlen hd hx hr hxd.1 hrd)
  · rw [if_neg hrd]
    by_cases hw : ∃ q ∈ rs, q.o.dst = some d ∧ listed.getD q.i false = true
    · obtain ⟨q, hq, hqd, hql⟩ := hw
      have hne : q ≠ r := by rintro rfl; exact hrd hqd
      rw [foldl_one (fun q => q.o.dst = some d ∧ (listed.setIfInBounds r.i true).getD q.i false = true) (·.v) _ _ q hq ⟨hqd, by rw [hset q hq hne]; exact hql⟩ (fun x hx hxd => hg.writer hlen hd hx hq hxd.1 hqd)]
      rw [foldl_one (fun q => q.o.dst = some d ∧ listed.getD q.i false = true) (·.v) _ _ q hq ⟨hqd, hql⟩ (fun x hx hxd => hg.writer hlen hd hx hq hxd.1 hqd)]
    · rw [foldl_none (fun q => q.o.dst = some d ∧ (listed.setIfInBounds r.i true).getD q.i false = true) (·.v) _ _ (fun x hx hxd => by
        have hne : x ≠ r := by rintro rfl; exact hrd hxd.1
        exact hw ⟨x, hx, hxd.1, by rw [← hset x hx hne]; exact hxd.2⟩)]
      rw [foldl_none (fun q => q.o.dst = some d ∧ listed.getD q.i false = true) (·.v) _ _ (fun x hx hxd => hw ⟨x, hx, hxd⟩)]

/-- What comes behind an operation: the parts of the state that do not hang on its kind. -/
theorem Inv.next (hg : Good P cf s ops f0 rs f) (hlen : rs.length = ops.size) (hd : DOk P ops) {listed : Array Bool} {a : Act} {w : World} {m : Map} {J : Nat} {cur : Nat → Nat} (h : Inv ds s ops f0 rs w0 m0 listed a w m J cur)
    {r : Rec} (hr : r ∈ rs) (hn : listed.getD r.i false = false) (hanc : ∀ f, anc ops r.i f = true → listed.getD f false = true)
    {m' : Map} {v' : Value} {w' : World} {J' : Nat} (hle : m.le m') (hv : VR m' r.v v')
    (hrel : RelH w0 m' (view s ops rs (fun i => (listed.setIfInBounds r.i true).getD i false) J').get (heapAt s rs J').2.get w')
    (hj : ∀ q ∈ rs, q.lw = true → ((listed.setIfInBounds r.i true).getD q.i false = true ↔ q.j < J')) (hJ : J' ≤ nLoud rs)
    (he : ∃ q, r.e = s.nx + s.st * r.i + s.st * (ops.size + 1) * q) (hns : ∀ k, m' (2 * (r.e + s.st * (ops.size + 1) * k)) = none)
    (hothers : ∀ i, i ≤ ops.size → i ≠ r.i → ∀ k, m' (2 * (cur i + s.st * (ops.size + 1) * k)) = none) :
    Inv ds s ops f0 rs w0 m0 (listed.setIfInBounds r.i true) (a.put r.o.dst v') w' m' J' (fun i => if i = r.i then r.e else cur i) := by
  have hri := hg.mem hlen hd hr
  have hlt : r.i < listed.size := by
    rw [h.lsz, ← hlen]
    rcases Nat.lt_or_ge r.i rs.length with h' | h'
    · exact h'
    · rw [List.getElem?_eq_none h'] at hri; cases hri
  refine ⟨h.le.trans hle, h.glob.mono hle, hrel, hj, hJ, fun i hi => ?_, fun q hq hql => ?_, fun i hi hil => ?_, fun i f hil hf => ?_, fun d => ?_, ?_, ?_, by simpa using h.lsz⟩
  · by_cases e : i = r.i
    · simp only [e, if_true]
      exact ⟨he, hns⟩
    · simp only [e, if_false]
      exact ⟨(h.ns i hi).1, hothers i hi e⟩
  · by_cases e : q.i = r.i
    · have := hg.inj hlen hd hq hr e
      subst this
      simp
    · simp only [e, if_false]
      rw [getD_set_ne false (fun x => e x.symm)] at hql
      exact h.done q hq hql
  · have e : i ≠ r.i := by rintro rfl; rw [getD_set_self hlt] at hil; cases hil
    simp only [e, if_false]
    rw [getD_set_ne false (fun x => e x.symm)] at hil
    exact h.todo i hi hil
  · by_cases ef : f = r.i
    · subst ef; exact getD_set_self hlt _
    · rw [getD_set_ne false (fun x => ef x.symm)]
      by_cases e : i = r.i
      · subst e; exact hanc f hf
      · rw [getD_set_ne false (fun x => e x.symm)] at hil
        exact h.closed i f hil hf
  · rw [tmp_next hg hlen hd h.lsz hr d]
    cases hdst : r.o.dst with
    | none => simp only [Act.put]; rw [if_neg (by intro h; cases h)]; exact (h.tmps d).mono hle
    | some d0 =>
      have hd0 : d0 < a.tmps.size := by rw [h.size]; exact (hg.rec' r.i r hri).2.2.2 d0 hdst
      simp only [Act.put]
      by_cases e : d0 = d
      · subst e
        rw [if_pos rfl]
        simp [Array.getD, hd0]; exact hv
      · rw [if_neg (fun h => e (by cases h; rfl))]
        have := (h.tmps d).mono hle
        simpa [Array.getD_eq_getD_getElem?, Array.getElem?_setIfInBounds_ne e] using this
  · rw [← h.size]; cases r.o.dst <;> simp [Act.put]
  · rw [← h.defers]; cases r.o.dst <;> rfl

/-- Names that an operation may take, and what the others hold back. -/
theorem Inv.names (hst : 0 < s.st) (hF : ∀ k, ¬ w0.F (2 * (s.nx + s.st * k))) {listed : Array Bool} {a : Act} {w : World} {m : Map} {J : Nat} {cur : Nat → Nat} (h : Inv ds s ops f0 rs w0 m0 listed a w m J cur) {i : Nat} (hi : i < ops.size) (hn : listed.getD i false = false) :
    ∃ F' : Nat → Prop, (∀ id, w0.F id → F' id) ∧ (∀ id, F' id → m id = none) ∧ (∀ k, m (2 * (s.nx + s.st * i + s.st * (ops.size + 1) * k)) = none ∧ ¬ F' (2 * (s.nx + s.st * i + s.st * (ops.size + 1) * k))) ∧
      ∀ i', i' ≤ ops.size → i' ≠ i → ∀ k, F' (2 * (cur i' + s.st * (ops.size + 1) * k)) := by
  refine ⟨fun id => w0.F id ∨ ∃ i', i' ≤ ops.size ∧ i' ≠ i ∧ ∃ k, id = 2 * (cur i' + s.st * (ops.size + 1) * k), fun id hid => .inl hid, ?_, fun k => ⟨?_, ?_⟩, fun i' h1 h2 k => .inr ⟨i', h1, h2, k, rfl⟩⟩
  · rintro id (hid | ⟨i', h1, h2, k, rfl⟩)
    · exact h.rel.res id hid
    · exact (h.ns i' h1).2 k
  · have := (h.ns i (by omega)).2 k
    rwa [h.todo i (by omega) hn] at this
  · rintro (hid | ⟨i', h1, h2, k', e⟩)
    · refine hF (i + (ops.size + 1) * k) ?_
      have e : s.nx + s.st * (i + (ops.size + 1) * k) = s.nx + s.st * i + s.st * (ops.size + 1) * k := by
        have h1 : s.st * (i + (ops.size + 1) * k) = s.st * i + s.st * ((ops.size + 1) * k) := Nat.mul_add _ _ _
        have h2 : s.st * ((ops.size + 1) * k) = s.st * (ops.size + 1) * k := (Nat.mul_assoc _ _ _).symm
        omega
      rw [e]; exact hid
    · obtain ⟨q, hq⟩ := (h.ns i' h1).1
      rw [hq] at e
      have e2 : s.nx + s.st * i + s.st * (ops.size + 1) * k = s.nx + s.st * i' + s.st * (ops.size + 1) * (q + k') := by
        have h1 : s.st * (ops.size + 1) * (q + k') = s.st * (ops.size + 1) * q + s.st * (ops.size + 1) * k' := Nat.mul_add _ _ _
        omega
      exact class_ne hst (by omega) (by omega) (Ne.symm h2) e2

theorem mkOk_spec {J : Nat} (h : mkOk s ops rs J = true) {r : Rec} (hr : r ∈ rs) (hb : r.b.isSome = true) {j : Nat} (hj : j ≤ J) (hi : insd ops rs j r.i = false) : (heapAt s rs j).1.get (2 * (s.nx + s.st * r.i)) = none := by
  have := List.all_eq_true.1 h r hr
  simp only [hb, Bool.not_true, Bool.false_or] at this
  have := List.all_eq_true.1 this j (by simp; omega)
  rw [hi] at this
  simpa using this

theorem insd_mono {j j' f : Nat} (hj : j ≤ j') (h : insd ops rs j' f = false) : insd ops rs j f = false := by
  unfold insd at h ⊢
  rw [List.any_eq_false] at h ⊢
  intro r hr hh
  refine h r hr ?_
  simp only [Bool.and_eq_true] at hh ⊢
  refine ⟨⟨hh.1.1, ?_⟩, hh.2⟩
  have := blt_lt hh.1.2
  simpa [Nat.blt_eq] using (by omega : r.j < j')

theorem nx_inj (hst : 0 < s.st) {i i' : Nat} (h : 2 * (s.nx + s.st * i) = 2 * (s.nx + s.st * i')) : i = i' := Nat.eq_of_mul_eq_mul_left hst (by omega)

/-- A lesser mask shows a part. -/
theorem view_part (hg : Good P cf s ops f0 rs f) (hlen : rs.length = ops.size) (hd : DOk P ops) (hst : 0 < s.st) {Jn : Nat} (hmk : mkOk s ops rs Jn = true) {J : Nat} (hJ : J ≤ Jn) {A L : Nat → Bool} (hAL : ∀ i, A i = true → L i = true) (id : Nat) (b : Blk) (h : (view s ops rs A J).get id = some b) :
    (view s ops rs L J).get id = some b := by
  rcases viewF_get s _ _ id b rs _ h with h1 | ⟨r, h1, h2, h3, h4, rfl⟩
  · unfold view
    rw [viewF_has s _ _ id rs _ fun r hr hb _ hi e => ?_]
    · exact h1
    · subst e
      rw [mkOk_spec hmk hr hb hJ hi] at h1; cases h1
  · exact viewF_made s hst _ _ rs _ (hg.inj2 hlen hd) r h1 b h2 (hAL _ h3) h4
end

end Go.AE
