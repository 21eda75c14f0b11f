import Derived.Test.YtkbclhkcceennaaDoorAeOpsD
set_option linter.unusedSimpArgs false
set_option linter.unusedVariables false
namespace Go.AE
open Go Go.RowKit

variable {P : Program} {w0 : KW} {m : Map} {s s' : St} {w : World} {v : Value}

theorem run_room {ty yt rt e : TypeId} {inf : TypeInfo} {dy : TypeDesc} (hd : P.underlying ty = some (.slice e)) (hinf : P.info? e = some inf) (hdy : P.underlying yt = some dy) (hni : notInt dy = true)
    {base : Option Addr} {len cap n : Nat} {y' : Value} (hlen : ∀ w2, (Builtin.lenOf y').run P w2 = .ok n w2) (hle : len + n ≤ cap) {vs' : List Value} (hnew : (Builtin.firstCells inf.size n y').run P w = .ok vs'.toArray w) {w2 : World}
    (hst : ((match base with | some a => storeCells (a.add (len * inf.size)) vs' | none => pure ()) : Sem Unit).run P w = .ok () w2) :
    (Builtin.append_ #[ty, yt] rt #[.slice base len cap, y']).run P w = .ok (.slice base (len + n) cap) w2 := by
  have hszT : sizeT P e = some inf.size := by simp [sizeT, hinf]
  cases dy with
  | int k => simp [notInt] at hni
  | _ =>
    cases base with
    | none =>
      simp only [Sem.run_pure, Result.ok.injEq, true_and] at hst
      subst hst
      simp only [Builtin.append_, List.getElem?_toArray, List.getElem?_cons_zero, List.getElem?_cons_succ, Sem.run_bind, r_underlying hd, Result.andThen_ok, r_size hszT, r_underlying hdy, Sem.run_pure, Bool.false_eq_true, if_false, hlen, hle, if_true, hnew, Bool.not_false]
    | some a =>
      simp only at hst
      simp only [Builtin.append_, List.getElem?_toArray, List.getElem?_cons_zero, List.getElem?_cons_succ, Sem.run_bind, r_underlying hd, Result.andThen_ok, r_size hszT, r_underlying hdy, Sem.run_pure, Bool.false_eq_true, if_false, hlen, hle, if_true, hnew, Bool.not_false, hst]

theorem cells_get (b : Blk) : ∀ (n i : Nat) (vs : List Value), b.cells i n = some vs → vs.length = n ∧ ∀ (j : Nat) u, vs[j]? = some u → b.cell (i + j) = some u
  | 0, i, vs, h => by
    simp only [Blk.cells, Option.some.injEq] at h; subst h
    exact ⟨rfl, fun j u hj => by simp at hj⟩
  | n + 1, i, vs, h => by
    simp only [Blk.cells] at h
    replace h := Option.bind_eq_some_iff.1 h; obtain ⟨x, hx, h⟩ := h
    replace h := Option.bind_eq_some_iff.1 h; obtain ⟨r, hr, h⟩ := h
    simp only [Option.some.injEq] at h; subst h
    obtain ⟨k1, k2⟩ := cells_get b n (i + 1) r hr
    refine ⟨by simp [k1], fun j u hj => ?_⟩
    cases j with
    | zero => simp at hj; subst hj; simpa using hx
    | succ j => have := k2 j u (by simpa using hj); rwa [show i + 1 + j = i + (j + 1) from by omega] at this

theorem heap_setCells : ∀ (vs : List Value) (k o : Nat) (w : World) (cs : Array Value) (t : TypeId) (fr : Nat × Nat), w.heap[k]? = some (.cells cs t fr) → o + vs.length ≤ cs.size →
    ∃ cs2, (w.setCells k o vs).heap[k]? = some (.cells cs2 t fr) ∧ cs2.size = cs.size ∧ ∀ j : Nat, cs2[j]? = if o ≤ j ∧ j < o + vs.length then vs[j - o]? else cs[j]?
  | [], k, o, w, cs, t, fr, h, _ => ⟨cs, h, rfl, fun j => by rw [if_neg (by simp only [List.length_nil]; omega)]⟩
  | v :: vs, k, o, w, cs, t, fr, h, hl => by
    simp only [List.length_cons] at hl
    obtain ⟨cs2, h1, h2, h3⟩ := heap_setCells vs k (o + 1) (w.setCell ⟨k, o, none⟩ v) _ t fr (heap_setCell_at w k o v cs t fr h) (by simp; omega)
    refine ⟨cs2, h1, by simpa using h2, fun j => ?_⟩
    rw [h3 j]
    simp only [List.length_cons]
    by_cases e : j = o
    · subst e
      rw [if_neg (by omega), if_pos (by omega), Array.getElem?_setIfInBounds_self_of_lt (by omega)]; simp
    · by_cases e2 : o + 1 ≤ j ∧ j < o + 1 + vs.length
      · rw [if_pos e2, if_pos (by omega), show j - o = (j - (o + 1)) + 1 from by omega]; simp
      · rw [if_neg e2, if_neg (by omega), Array.getElem?_setIfInBounds_ne (by omega)]

theorem heap_setCells_ne : ∀ (vs : List Value) (k o : Nat) (w : World) (j : Nat), j ≠ k → (w.setCells k o vs).heap[j]? = w.heap[j]?
  | [], _, _, _, _, _ => rfl
  | v :: vs, k, o, w, j, h => (heap_setCells_ne vs k (o + 1) _ j h).trans (Below.heap_setCell w ⟨k, o, none⟩ v j h)
theorem keeps_setCells {w0 : KW} : ∀ (vs : List Value) (k o : Nat) (w : World), Keeps w0 w → ¬ w0.K k → Keeps w0 (w.setCells k o vs)
  | [], _, _, _, h, _ => h
  | v :: vs, k, o, w, h, hk => keeps_setCells vs k (o + 1) _ (h.setCell (p := ⟨k, o, none⟩) hk v) hk

/-- A block that nobody may use any more. -/
theorem Rel.kill (h : Rel w0 m s w) (id : Nat) : Rel w0 m { s with h := s.h.set id none } w := by
  have hg : ∀ {i : Nat} {b : Blk}, (s.h.set id none).get i = some b → s.h.get i = some b := fun {i b} hi => by
    rw [PT.get_set] at hi
    split at hi
    · cases hi
    · exact hi
  exact ⟨⟨h.below, h.res, fun i b hi => h.blk i b (hg hi), fun i j bi bj li lj hi hj => h.inj i j bi bj li lj (hg hi) (hg hj), h.maps, h.minj⟩, h.pos, h.fresh⟩

/-- A row that grew where it lay. -/
theorem Rel.regrow (h : Rel w0 m s w) {a : Addr} {b : Blk} {l : Loc} (hb : s.h.get a.block = some b) (hl : m a.block = some l) (hex : b.exact = false) (hro : b.ro = false) {k sz : Nat} {old vs vs' : List Value} (hold : b.cells a.off k = some old) (hv : VRs m vs vs') (h1 : vs.all oneCell = true)
    (hfit : l.sh + a.off + (k + vs.length) ≤ l.cs) {e : TypeId} (he : b.elem = e) {p : Nat × St} (hp : ({ s with h := s.h.set a.block none } : St).alloc (grownBlk e sz b.strish (old ++ vs)) = some p) :
    ∃ m', m.le m' ∧ m' p.1 = some ⟨l.blk, l.sh + a.off, false, l.cs, sz⟩ ∧ Rel w0 m' p.2 (w.setCells l.blk (l.sh + a.off + k) vs') := by
  obtain ⟨e1, e2⟩ := alloc_eq hp
  simp only at e1 e2
  obtain ⟨l2, hl2, hbr⟩ := h.blk _ b hb
  rw [hl] at hl2; cases hl2
  have hB := hbr.lo hro
  obtain ⟨cs, fr, t0, te, c1, c2, c3, c4, c5⟩ := hbr.obj
  obtain ⟨hol, hog⟩ := cells_get b k a.off old hold
  obtain ⟨cs2, d1, d2, d3⟩ := heap_setCells vs' l.blk (l.sh + a.off + k) w cs _ fr c1 (by rw [← hv.1]; omega)
  obtain ⟨hnew, hnF⟩ := h.fresh0
  have hle := Map.le_upd hnew ⟨l.blk, l.sh + a.off, false, l.cs, sz⟩
  refine ⟨upd m (2 * s.nx) (some ⟨l.blk, l.sh + a.off, false, l.cs, sz⟩), hle, by rw [e1]; exact upd_same _ _ _, ?_⟩
  rw [e2]
  have hne : a.block ≠ 2 * s.nx := by intro hx; rw [hx, hnew] at hl; cases hl
  have hget : ∀ {i : Nat} {bi : Blk}, ((s.h.set a.block none).set (2 * s.nx) (some (grownBlk e sz b.strish (old ++ vs)))).get i = some bi → (i = 2 * s.nx ∧ bi = grownBlk e sz b.strish (old ++ vs)) ∨ (i ≠ 2 * s.nx ∧ i ≠ a.block ∧ s.h.get i = some bi) := fun {i bi} hi => by
    rw [PT.get_set] at hi
    by_cases e0 : i = 2 * s.nx
    · rw [if_pos e0] at hi; cases hi; exact .inl ⟨e0, rfl⟩
    · rw [if_neg e0, PT.get_set] at hi
      by_cases e3 : i = a.block
      · rw [if_pos e3] at hi; cases hi
      · rw [if_neg e3] at hi; exact .inr ⟨e0, e3, hi⟩
  have other : ∀ {i : Nat} {bi : Blk} {li : Loc}, i ≠ a.block → s.h.get i = some bi → m i = some li → li.blk ≠ l.blk := fun {i bi li} hi hbi hli hx => hi (h.inj i a.block bi b li l hbi hb hli hl hx (.inr hro))
  refine ⟨⟨keeps_setCells _ _ _ _ h.below hB, fun i hi => ?_, fun i bi hi => ?_, fun i j bi bj li lj hi hj hli hlj hbb hro2 => ?_, fun i x hx => ?_, fun i j bi bj li lj hi hj hli hlj hbb => ?_⟩, h.pos, fun k => ?_⟩
  · rw [upd_ne _ _ (by rintro rfl; exact hnF hi)]; exact h.res i hi
  · rcases hget hi with ⟨rfl, rfl⟩ | ⟨k1, k2, k3⟩
    · refine ⟨_, upd_same _ _ _, ⟨rfl, fun _ => rfl, ⟨cs2, fr, t0, fun _ => by rw [te hex, he]; rfl, d1, by rw [d2, c2], by simp [grownBlk, hol]; omega, fun i u hu => ?_, ?_⟩, fun _ => hB, fun hx => by cases hx⟩⟩
      · have hu := grownBlk_cell _ _ _ _ i hu
        rw [d3]
        simp only
        by_cases hi : i < k
        · rw [if_neg (by omega)]
          rw [List.getElem?_append_left (by omega)] at hu
          obtain ⟨u', q1, q2, q3⟩ := c4 _ u (hog i u hu)
          exact ⟨u', by rw [← q1]; congr 1; omega, q2.mono hle, q3⟩
        · rw [List.getElem?_append_right (by omega), hol] at hu
          obtain ⟨u', q1, q2⟩ := hv.get hu
          have hil : i - k < vs.length := by
            rcases Nat.lt_or_ge (i - k) vs.length with h' | h'
            · exact h'
            · rw [List.getElem?_eq_none h'] at hu; cases hu
          exact ⟨u', by rw [if_pos (by rw [← hv.1]; omega), ← q1]; congr 1; omega, q2.mono hle, all_get h1 hu⟩
      · intro _; rw [d2]; rcases c5 hro with q | ⟨q1, q2⟩
        · exact .inl q
        · exact .inr ⟨q1, q2⟩
    · obtain ⟨li, q1, q2⟩ := h.blk i bi k3
      exact ⟨li, hle _ _ q1, (q2.mono hle).world (heap_setCells_ne _ _ _ _ _ (other k2 k3 q1))⟩
  · rcases hget hi with ⟨rfl, rfl⟩ | ⟨k1, k2, k3⟩
    · rcases hget hj with ⟨rfl, rfl⟩ | ⟨j1, j2, j3⟩
      · rfl
      · exfalso
        rw [upd_same] at hli; cases hli
        rw [upd_ne _ _ j1] at hlj
        exact other j2 j3 hlj hbb.symm
    · rcases hget hj with ⟨rfl, rfl⟩ | ⟨j1, j2, j3⟩
      · exfalso
        rw [upd_same] at hlj; cases hlj
        rw [upd_ne _ _ k1] at hli
        exact other k2 k3 hli hbb
      · rw [upd_ne _ _ k1] at hli; rw [upd_ne _ _ j1] at hlj
        exact h.inj i j bi bj li lj k3 j3 hli hlj hbb hro2
  · obtain ⟨li, q1, q2, q3⟩ := h.maps i x hx
    refine ⟨li, hle _ _ q1, ?_, q3⟩
    rw [heap_setCells_ne _ _ _ _ _ (fun hx => by rw [hx, c1] at q2; cases q2)]; exact q2
  · have old : ∀ {k : Nat} {mk : Array MapEntry × Nat} {lk : Loc}, s.hm.get k = some mk → upd m (2 * s.nx) (some ⟨l.blk, l.sh + a.off, false, l.cs, sz⟩) k = some lk → m k = some lk := fun {k mk lk} h1 h2 => by
      obtain ⟨l, h3, _⟩ := h.maps k mk h1
      have := hle _ _ h3
      rw [h2] at this; cases this; exact h3
    exact h.minj i j bi bj li lj hi hj (old hi hli) (old hj hlj) hbb
  · obtain ⟨k1, k2, k3⟩ := h.fresh1 k
    exact ⟨by simp only; rw [upd_ne _ _ k3]; exact k1, k2⟩

theorem eAppend_sound {ty yt rt : TypeId} {x y x' y' : Value} (h : eAppend P ty yt x y s = some (v, s')) (hR : Rel w0 m s w) (hx : VR m x x') (hy : VR m y y') : Out w0 m s' v ((Builtin.append_ #[ty, yt] rt #[x', y']).run P w) := by
  replace h := Option.bind_eq_some_iff.1 h; obtain ⟨d, hd, h⟩ := h
  replace h := Option.bind_eq_some_iff.1 h; obtain ⟨e, he, h⟩ := h
  replace h := Option.bind_eq_some_iff.1 h; obtain ⟨inf, hinf, h⟩ := h
  replace h := Option.bind_eq_some_iff.1 h; obtain ⟨z, hz, h⟩ := h
  replace h := Option.bind_eq_some_iff.1 h; obtain ⟨dy, hdy, h⟩ := h
  replace h := Option.bind_eq_some_iff.1 h; obtain ⟨_, hck, h⟩ := h
  obtain rfl := sliceE_eq he
  have hck := ck_some hck
  simp only [Bool.and_eq_true] at hck
  obtain ⟨⟨⟨hni, hzl⟩, hs0⟩, hb0⟩ := hck
  have hzl := Nat.eq_of_beq_eq_true hzl
  have hzs : z.cells.size = inf.size := by simpa using hzl
  have hb0 : inf.bytes ≠ 0 := by rintro h0; rw [h0] at hb0; simp at hb0
  split at h
  case h_2 => cases h
  rename_i base len cap
  replace h := Option.bind_eq_some_iff.1 h; obtain ⟨nv, hnv, h⟩ := h
  obtain ⟨n, vs⟩ := nv
  simp only at h
  replace h := Option.bind_eq_some_iff.1 h; obtain ⟨_, hbig, h⟩ := h
  have hbig := Nat.le_of_ble_eq_true (ck_some hbig)
  obtain ⟨hlen, vs', hvv, hv1, hvl, hfc⟩ := appNew_sound (P := P) hnv hR hy
  have hvl' : vs'.length = n * inf.size := by rw [← hvv.1, hvl]
  split at h
  · -- nothing is added
    rename_i hn0
    have hn0 := Nat.eq_of_beq_eq_true hn0
    subst hn0
    replace h := Option.bind_eq_some_iff.1 h; obtain ⟨_, hlc, h⟩ := h
    have hlc := Nat.le_of_ble_eq_true (ck_some hlc)
    simp only [Option.some.injEq, Prod.mk.injEq] at h
    obtain ⟨rfl, rfl⟩ := h
    have hv0 : vs' = [] := List.length_eq_zero_iff.1 (by omega)
    subst hv0
    have go : ∀ (b' : Option Addr) (c' : Nat), len ≤ c' → (Builtin.append_ #[ty, yt] rt #[.slice b' len c', y']).run P w = .ok (.slice b' len c') w := fun b' c' hc => by
      have := run_room (rt := rt) (base := b') (len := len) (cap := c') (n := 0) (y' := y') hd hinf hdy hni hlen (by omega) (hfc w rfl) (w2 := w) (by cases b' <;> rfl)
      simpa using this
    cases hx with
    | slice0 => exact (Out.here (.slice0 _ _) hR).cast (go _ _ hlc)
    | slice a l n c c' hl hs he2 hcc hn => exact (Out.here (.slice a l _ _ c' hl hs he2 hcc hn) hR).cast (go _ _ (by omega))
    | sliceE a a' l hl hex hs hb => exact (Out.here (.sliceE a a' l hl hex hs hb) hR).cast (go _ _ (by omega))
  · rename_i hn0
    have hnp : 0 < n := by
      rcases Nat.eq_zero_or_pos n with h' | h'
      · subst h'; cases hn0
      · exact h'
    have hw1 : ∀ w2 : World, w2 = { w with drawn := w.drawn + 1 } → Rel w0 m s w2 := fun w2 e => by subst e; exact hR.drew
    split at h
    · -- to nil
      replace h := Option.bind_eq_some_iff.1 h; obtain ⟨_, hlc, h⟩ := h
      replace h := Option.bind_eq_some_iff.1 h; obtain ⟨p, hp, h⟩ := h
      simp only [Option.some.injEq, Prod.mk.injEq] at h
      obtain ⟨rfl, rfl⟩ := h
      have hlc := ck_some hlc
      simp only [Bool.and_eq_true] at hlc
      have e1 := Nat.eq_of_beq_eq_true hlc.1
      have e2 := Nat.eq_of_beq_eq_true hlc.2
      subst e1; subst e2
      cases hx with
      | slice0 =>
        obtain ⟨nc, cs, hrun, hnc, hcs, hget⟩ := run_grow (rt := rt) (w := w) (base := none) (len := 0) (cap := 0) (y' := y') (old' := []) hd hinf hz hdy hni hzs hb0 hlen hbig (by omega) (fun w2 _ => rfl) hfc (by simp) hvl'
        obtain ⟨m', hle, hloc, hR'⟩ := Rel.alloc (hw1 _ rfl) (b := grownBlk e inf.size false vs) (id := p.1) (s' := p.2) hp cs (0, 0) (by
            simp only [grownBlk, hvl, hcs]; exact Nat.mul_le_mul_right _ (by omega)) rfl (fun i u hu => by
            have hu := grownBlk_cell _ _ _ _ i hu
            obtain ⟨u', q1, q2⟩ := hvv.get hu
            refine ⟨u', ?_, q2, all_get hv1 hu⟩
            rw [hget i (by
              simp only [List.nil_append]
              rcases Nat.lt_or_ge i vs'.length with h' | h'
              · exact h'
              · rw [List.getElem?_eq_none h'] at q1; cases q1)]
            simpa using q1) (.inl rfl)
        refine ⟨m', _, _, hrun, hle, ?_, hR'⟩
        have := VR.slice (m := m') ⟨p.1, 0, none⟩ _ n n nc hloc rfl (fun hx => by cases hx) (by omega) (fun _ => by simp only [hcs, grownBlk]; omega)
        simpa using this
    · rename_i a
      split at h
      · -- there is room, and it is known
        rename_i hroom
        have hroom := Nat.le_of_ble_eq_true hroom
        replace h := Option.bind_eq_some_iff.1 h; obtain ⟨s1, hs1, h⟩ := h
        simp only [Option.some.injEq, Prod.mk.injEq] at h
        obtain ⟨rfl, rfl⟩ := h
        cases hx with
        | sliceE => omega
        | slice a l n' c c' hl hs he2 hcc hn' =>
          have hl2 : m (a.add (len * inf.size)).block = some l := by rw [Addr_add' a hs]; exact hl
          obtain ⟨k1, k2⟩ := hR.run_stores P hl2 hvv hs1
          rw [Addr_add' a hs] at k1 k2
          simp only at k1 k2
          refine ⟨m, _, .slice (some ⟨l.blk, l.sh + a.off, none⟩) (len + n) c', ?_, Map.le_refl m, VR.slice a l _ _ c' hl hs he2 hcc hn', k2⟩
          exact run_room (rt := rt) hd hinf hdy hni hlen (by omega) (hfc w rfl) (by
            simp only [Addr_add, Nat.add_assoc]
            simpa [Nat.add_assoc] using k1)
      · rename_i hroom
        have hroom : cap < len + n := by
          rcases Nat.lt_or_ge cap (len + n) with h' | h'
          · exact h'
          · rw [Nat.ble_eq_true_of_le h'] at hroom; cases hroom
        replace h := Option.bind_eq_some_iff.1 h; obtain ⟨b, hb, h⟩ := h
        replace h := Option.bind_eq_some_iff.1 h; obtain ⟨old, hold, h⟩ := h
        obtain ⟨hol, hog⟩ := cells_get b _ _ old hold
        -- the elder cells, as the model reads them
        have holds : ∀ (a' : Addr) (c' : Nat), VR m (.slice (some a) len cap) (.slice (some a') len c') → ∃ old', VRs m old old' ∧ old.all oneCell = true ∧ ∀ w2 : World, w2.heap = w.heap → (Builtin.firstCells inf.size len (.slice (some a') len c')).run P w2 = .ok old'.toArray w2 := fun a' c' hv2 => by
          have hld : s.loads a (len * inf.size) = some old := by simp only [St.loads, hb, Option.bind_some, hold]
          obtain ⟨_, vs2, q1, q2, q3, q4⟩ := appNew_sound (P := P) (sz := inf.size) (n := len) (y := .slice (some a) len cap) (vs := old) (by simp only [appNew, hld, Option.bind_some]) hR hv2
          exact ⟨vs2, q1, q2, q4⟩
        -- a new row, made of both
        have grow : ∀ (a' : Addr) (c' : Nat) (st : Bool) (s1 : St) (p : Nat × St), VR m (.slice (some a) len cap) (.slice (some a') len c') → c' < len + n → Rel w0 m s1 w → s1.alloc (grownBlk e inf.size st (old ++ vs)) = some p →
            Out w0 m p.2 (.slice (some ⟨p.1, 0, none⟩) (len + n) (len + n)) ((Builtin.append_ #[ty, yt] rt #[.slice (some a') len c', y']).run P w) := fun a' c' st s1 p hv2 hc hR1 hp => by
          obtain ⟨old', o1, o2, o3⟩ := holds a' c' hv2
          obtain ⟨nc, cs, hrun, hnc, hcs, hget⟩ := run_grow (rt := rt) (w := w) (base := some a') (len := len) (cap := c') (y' := y') (old' := old') hd hinf hz hdy hni hzs hb0 hlen hbig hc o3 hfc (by rw [← o1.1, hol]) hvl'
          have hov := o1.append hvv
          have ho1 : (old ++ vs).all oneCell = true := by rw [List.all_append, o2, hv1]; rfl
          obtain ⟨m', hle, hloc, hR'⟩ := Rel.alloc hR1.drew (b := grownBlk e inf.size st (old ++ vs)) (id := p.1) (s' := p.2) hp cs (0, 0) (by
              simp only [grownBlk, List.length_append, hvl, hol, hcs]; rw [← Nat.add_mul]; exact Nat.mul_le_mul_right _ hnc) rfl (fun i u hu => by
              have hu := grownBlk_cell _ _ _ _ i hu
              obtain ⟨u', q1, q2⟩ := hov.get hu
              refine ⟨u', ?_, q2, all_get ho1 hu⟩
              rw [hget i (by
                rcases Nat.lt_or_ge i (old' ++ vs').length with h' | h'
                · exact h'
                · rw [List.getElem?_eq_none h'] at q1; cases q1)]
              exact q1) (.inl rfl)
          refine ⟨m', _, _, hrun, hle, ?_, hR'⟩
          have := VR.slice (m := m') ⟨p.1, 0, none⟩ _ (len + n) (len + n) nc hloc rfl (fun hx => by cases hx) hnc (fun _ => by simp only [hcs, grownBlk]; omega)
          simpa using this
        split at h
        · -- the row was full
          rename_i hbe
          replace h := Option.bind_eq_some_iff.1 h; obtain ⟨p, hp, h⟩ := h
          simp only [Option.some.injEq, Prod.mk.injEq] at h
          obtain ⟨rfl, rfl⟩ := h
          have hx0 := hx
          cases hx with
          | slice a l n' c c' hl hs he2 hcc hn' =>
            obtain ⟨l2, hl2, hbr⟩ := hR.blk _ b hb
            rw [hl] at hl2; cases hl2
            have := he2 (by rw [hbr.ex]; exact hbe)
            subst this
            exact grow _ _ false s p hx0 hroom hR hp
          | sliceE a a' l hl hex hs hbb => exact grow _ _ false s p hx0 (by omega) hR hp
        · -- nobody knows whether there was room
          rename_i hbe
          replace h := Option.bind_eq_some_iff.1 h; obtain ⟨_, hc2, h⟩ := h
          replace h := Option.bind_eq_some_iff.1 h; obtain ⟨p, hp, h⟩ := h
          simp only [Option.some.injEq, Prod.mk.injEq] at h
          obtain ⟨rfl, rfl⟩ := h
          have hc2 := ck_some hc2
          simp only [Bool.and_eq_true, Bool.not_eq_true'] at hc2
          obtain ⟨⟨hes, hro⟩, hel⟩ := hc2
          have hes := Nat.eq_of_beq_eq_true hes
          have hel := Nat.eq_of_beq_eq_true hel
          have hx0 := hx
          cases hx with
          | sliceE a a' l hl hex hs hbb => exact grow _ _ _ _ p hx0 (by omega) (hR.kill _) hp
          | slice a l n' c c' hl hs he2 hcc hn' =>
            by_cases hroom2 : len + n ≤ c'
            · obtain ⟨l2, hl2, hbr⟩ := hR.blk _ b hb
              rw [hl] at hl2; cases hl2
              have hfit := hn' (by rw [hbr.ex]; exact hbe)
              rw [hbr.es hbe, hes] at hfit
              have hmul : (len + n) * inf.size ≤ c' * inf.size := Nat.mul_le_mul_right _ hroom2
              have hsum : (len + n) * inf.size = len * inf.size + n * inf.size := Nat.add_mul _ _ _
              obtain ⟨m', hle, hloc, hR'⟩ := hR.regrow hb hl hbe hro hold hvv hv1 (by rw [hvl]; omega) hel hp
              refine ⟨m', _, .slice (some ⟨l.blk, l.sh + a.off, none⟩) (len + n) c', ?_, hle, ?_, hR'⟩
              · obtain ⟨cs, fr, t0, te, c1, c2, c3, c4, c5⟩ := hbr.obj
                refine run_room (rt := rt) hd hinf hdy hni hlen hroom2 (hfc w rfl) ?_
                simp only [Addr_add]
                have := run_storeCells_cells (P := P) l.blk (l.sh + a.off + len * inf.size) vs' 0 w (fun j hj => ?_) (fun j hj => ?_) (fun u hu => ?_)
                · simpa using this
                · have : l.sh + a.off + len * inf.size + j < cs.size := by omega
                  simp [World.cell?, c1, this]
                · have : l.sh + a.off + len * inf.size + 0 + j < cs.size := by omega
                  rcases c5 hro with rfl | ⟨_, rfl⟩ <;> simp [World.frozen?, c1]
                  omega
                · obtain ⟨i, hi⟩ := List.mem_iff_getElem?.1 hu
                  have hi' : i < vs.length := by
                    rw [hvv.1]
                    rcases Nat.lt_or_ge i vs'.length with h' | h'
                    · exact h'
                    · rw [List.getElem?_eq_none h'] at hi; cases hi
                  have := hvv.2 i _ _ (List.getElem?_eq_getElem hi') hi
                  rw [this.one']
                  exact all_mem hv1 _ (List.getElem_mem hi')
              · have := VR.slice (m := m') ⟨p.1, 0, none⟩ _ (len + n) (len + n) c' hloc rfl (fun hx => by cases hx) hroom2 (fun _ => by simp only; omega)
                simpa using this
            · exact grow _ _ _ _ p hx0 (by omega) (hR.kill _) hp

end Go.AE
