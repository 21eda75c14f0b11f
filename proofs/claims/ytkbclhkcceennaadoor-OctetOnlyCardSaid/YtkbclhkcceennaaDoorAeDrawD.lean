import Derived.Test.YtkbclhkcceennaaDoorAeDrawC
set_option linter.unusedSimpArgs false
set_option linter.unusedVariables false
namespace Go.AE
open Go Go.RowKit

variable {P : Program} {cf : CallF} {s : St} {ops : Array Oper} {f0 : FS} {rs : List Rec} {f : FS} {ds : List Deferred} {w0 : KW} {m0 : Map}

theorem wanted_eq {m : Map} {t : PT Value} {a : Act} {o : Oper} (h : ∀ d ∈ o.looksAt ops, VR m (ρof t (.tmp d)) (a.tmps.getD d undef)) : Region.wanted o (yieldedE ops t) = Region.wanted o (yielded ops a.tmps) := by
  unfold Region.wanted
  cases hgd : o.guard with
  | none => rfl
  | some gw =>
    obtain ⟨g, want⟩ := gw
    simp only
    have : yieldedE ops t g = yielded ops a.tmps g := by
      unfold yieldedE yielded
      cases hog : ops[g]? with
      | none => rfl
      | some og =>
        simp only [Option.bind_some]
        cases hdst : og.dst with
        | none => rfl
        | some d =>
          have h := h d (by simp [Oper.looksAt, hgd, hog, hdst])
          simp only [Option.bind_some]
          simp only [ρof] at h
          rw [Array.getD_eq_getD_getElem?] at h
          cases hg : t.get d with
          | none =>
            rw [hg] at h
            cases ht : a.tmps[d]? with
            | none => rfl
            | some u => rw [ht] at h; simp only [Option.getD_some] at h; cases h; rfl
          | some u =>
            rw [hg] at h
            cases ht : a.tmps[d]? with
            | none => rw [ht] at h; simp only [Option.getD_none] at h; cases h; rfl
            | some u' => rw [ht] at h; simp only [Option.getD_some] at h; cases h <;> rfl
    rw [this]

theorem eval_looks {m : Map} (hG : Glob m) {t : PT Value} {a : Act} {o : Oper} (h : ∀ d ∈ o.looksAt ops, VR m (ρof t (.tmp d)) (a.tmps.getD d undef)) : ∀ x ∈ o.op.operands, okConst x = true → VR m (ρof t x) (a.eval x) := by
  intro x hx hc
  cases x with
  | tmp i =>
    refine h i ?_
    unfold Oper.looksAt
    rw [List.mem_append]
    refine .inl ?_
    rw [List.mem_filterMap]
    exact ⟨.tmp i, by simpa using hx, rfl⟩
  | const v => exact plain_VR m 8 v hc
  | global g =>
    obtain ⟨l, h1, h2, h3⟩ := hG g
    have := VR.ptr (m := m) ⟨2 * g + 1, 0, none⟩ l h1 rfl
    rw [h2, h3] at this
    exact this
  | func f => exact .func _ _ _ _ _ rfl rfl (fun i x x' h => by simp at h) (fun i x x' h => by simp at h)

/-- Behind an operation that made nothing the view shows no more. -/
theorem view_next (hg : Good P cf s ops f0 rs f) (hlen : rs.length = ops.size) (hd : DOk P ops) (hst : 0 < s.st) {Jn : Nat} (hmk : mkOk s ops rs Jn = true) {J : Nat} (hJ : J ≤ Jn) {listed : Array Bool} {r : Rec} (hr : r ∈ rs) (hb : r.b = none) (id : Nat) (b : Blk)
    (h : (view s ops rs (fun i => (listed.setIfInBounds r.i true).getD i false) J).get id = some b) : (view s ops rs (fun i => listed.getD i false) J).get id = some b := by
  rcases viewF_get s _ _ id b rs _ h with h1 | ⟨q, h1, h2, h3, h4, rfl⟩
  · unfold view
    rw [viewF_has s _ _ id rs _ fun r hr hb _ hi e => ?_]
    · exact h1
    · subst e
      rw [mkOk_spec hmk hr hb hJ hi] at h1; cases h1
  · have hne : q.i ≠ r.i := fun e => by
      have := hg.inj hlen hd h1 hr e
      subst this
      rw [hb] at h2; cases h2
    refine viewF_made s hst _ _ rs _ (hg.inj2 hlen hd) q h1 b h2 ?_ h4
    rwa [getD_set_ne false (fun e => hne e.symm)] at h3

set_option maxHeartbeats 1000000 in
theorem draw_step (hcf : CallOk P cf) (hg : Good P cf s ops f0 rs f) (hlen : rs.length = ops.size) (hd : DOk P ops) (hst : 0 < s.st) (hrd : rdOk P cf s ops rs (nLoud rs) = true) (hmk : mkOk s ops rs (nLoud rs) = true) (hF : ∀ k, ¬ w0.F (2 * (s.nx + s.st * k)))
    {K : Act → World → Prop} {Q : Exit → Act → World → Prop} {listed : Array Bool} {a : Act} {w : World} {m : Map} {J : Nat} {cur : Nat → Nat} (h : Inv ds s ops f0 rs w0 m0 listed a w m J cur) {i : Nat} (hi : i ∈ Region.ready .any ops listed)
    (hK : ∀ a' w' m' J' cur', Inv ds s ops f0 rs w0 m0 (listed.setIfInBounds i true) a' w' m' J' cur' → K a' w') : wpOp P ops Q i K a w := by
  obtain ⟨hnt, o, ho, hall⟩ := mem_ready.1 hi
  obtain ⟨r, hri, hr, rfl, rfl⟩ := hg.get hlen hd ho
  have hisz : r.i < ops.size := by
    rcases Nat.lt_or_ge r.i ops.size with h' | h'
    · exact h'
    · rw [Array.getElem?_eq_none h'] at ho; cases ho
  have hn : listed.getD r.i false = false := by
    have : r.i < listed.size := by rw [h.lsz]; exact hisz
    simp [Array.getD, this] at hnt ⊢; exact hnt
  have hanc : ∀ f, anc ops r.i f = true → listed.getD f false = true := fun f hf => by
    obtain ⟨e, he, hb, hx⟩ := (anc_spec ho (hd.back _ _ ho) f).1 hf
    have hl := hall e he hb
    rcases hx with rfl | hx
    · exact hl
    · exact h.closed _ _ hl hx
  have hlook : ∀ d ∈ r.o.looksAt ops, VR m (ρof r.t (.tmp d)) (a.tmps.getD d undef) := fun d hdl => by
    rw [tmp_same hg hlen hd h.closed hr hn hanc hdl]; exact h.tmps d
  obtain ⟨_, hrec, _, _⟩ := hg.rec' r.i r hri
  have hrf := recOf_o hrec
  have hwe : r.w = Region.wanted r.o (yielded ops a.tmps) := by rw [hrf.2.2.2.2.1]; exact wanted_eq hlook
  -- nothing else has come up that hangs on this one
  have hnoanc : ∀ q, listed.getD q false = true → anc ops q r.i = false := fun q hq => by
    cases hh : anc ops q r.i with
    | false => rfl
    | true => have := h.closed _ _ hq hh; rw [hn] at this; cases this
  have hins : insd ops rs J r.i = false := by
    unfold insd
    rw [List.any_eq_false]
    intro c hc hh
    simp only [Bool.and_eq_true] at hh
    have := (h.hj c hc hh.1.1).2 (blt_lt hh.1.2)
    rw [hnoanc c.i this] at hh
    cases hh.2
  -- all others keep their names
  have others0 : ∀ i', i' ≤ ops.size → i' ≠ r.i → ∀ k, m (2 * (cur i' + s.st * (ops.size + 1) * k)) = none := fun i' h1 _ k => (h.ns i' h1).2 k
  have hj0 : r.lw = false → ∀ q ∈ rs, q.lw = true → ((listed.setIfInBounds r.i true).getD q.i false = true ↔ q.j < J) := fun hl q hq hql => by
    have hne : q.i ≠ r.i := fun e => by
      have := hg.inj hlen hd hq hr e
      subst this
      rw [hl] at hql; cases hql
    rw [getD_set_ne false (fun e => hne e.symm)]
    exact h.hj q hq hql
  unfold wpOp
  simp only [ho]
  cases hw : r.w with
  | false =>
    rw [if_neg (by rw [← hwe, hw]; simp)]
    obtain ⟨e1, e2, e3⟩ := recOf_not hrec hw
    have hlw : r.lw = false := by simp [Rec.lw, hw]
    refine hK _ _ m J _ (h.next hg hlen hd hr hn hanc (Map.le_refl m) (e1 ▸ undef_VR m) ?_ (hj0 hlw) h.hJ ⟨0, by rw [e3]; simp⟩ (fun k => ?_) others0)
    · exact h.rel.part (view_next hg hlen hd hst hmk h.hJ hr e2) (fun _ _ hx => hx)
    · have := (h.ns r.i (by omega)).2 k
      rwa [h.todo r.i (by omega) hn, ← e3] at this
  | true =>
    rw [if_pos (by rw [← hwe, hw])]
    refine .inl ?_
    obtain ⟨F', f1, f2, f3, f4⟩ := h.names hst hF hisz hn
    have hpos : 0 < s.st * (ops.size + 1) := Nat.mul_pos hst (by omega)
    have others : ∀ {m' : Map} {w0' : KW}, w0'.F = F' → (∀ id, w0'.F id → m' id = none) → ∀ i', i' ≤ ops.size → i' ≠ r.i → ∀ k, m' (2 * (cur i' + s.st * (ops.size + 1) * k)) = none := fun e hres i' h1 h2 k => hres _ (by rw [e]; exact f4 i' h1 h2 k)
    cases hl : r.ld with
    | true =>
      -- it may change what lies there: it is the next one of the loud ones
      have hlw : r.lw = true := by simp [Rec.lw, hw, hl]
      have hjJ : r.j = J := by
        have h1 : ¬ r.j < J := fun hlt => by have := (h.hj r hr hlw).2 hlt; rw [hn] at this; cases this
        rcases Nat.lt_or_ge J r.j with h2 | h2
        · exfalso
          have hrj := (hg.idx hlen hd hri).2.2
          obtain ⟨q, q1, q2, q3, q4⟩ := hg.j_ex hlen hd r.i J (by rw [hlen]; omega) (by rw [← hrj]; exact h2)
          have hqo := (hg.idx hlen hd (hg.mem hlen hd q1)).2.1
          have hql : q.ld = true := by simp [Rec.lw] at q3; exact q3.1
          have hqf := recOf_o (hg.rec' q.i q (hg.mem hlen hd q1)).2.1
          have ha := hd.loud r.i q.i r.o q.o ho hqo (by rw [← hrf.2.2.2.2.2.1]; exact hl) (by rw [← hqf.2.2.2.2.2.1]; exact hql) q2
          have := (h.hj q q1 q3).1 (hanc _ ha)
          omega
        · omega
      obtain ⟨s', ev, t1, t2, t3, t4, t5, t6⟩ := recOf_loud hrec hw hl
      obtain ⟨v1, v2⟩ := view_take (s := s) hg hlen hd hr
      rw [v1, v2, hjJ] at ev
      have hsub : ∀ id b, (view s ops rs (anc ops r.i) J).get id = some b → (view s ops rs (fun i => listed.getD i false) J).get id = some b := fun id b => view_part hg hlen hd hst hmk h.hJ hanc id b
      obtain ⟨w0', g1, g2, g3⟩ := h.rel.split (view s ops rs (anc ops r.i) J).get (heapAt s rs J).2.get hsub (fun _ _ hx => hx) F' f1 f2
      have hRel : Rel w0' m { h := view s ops rs (anc ops r.i) J, hm := (heapAt s rs J).2, nx := s.nx + s.st * r.i, st := s.st * (ops.size + 1) } w := ⟨g2, hpos, by rw [g1]; exact f3⟩
      refine evalAny_wp0 hcf ev hRel h.glob (eval_looks h.glob hlook) fun m' v' w' k1 k2 k3 => ?_
      have hH : heapAt s rs (J + 1) = (s'.h, s'.hm) := by rw [← hjJ, heapAt_lw hg hlen hd hr hlw, t4, t5]
      have hjlt := hg.j_bound hlen hd hr hlw
      have hJ1 : J + 1 ≤ nLoud rs := by omega
      have hins1 : ∀ q ∈ rs, insd ops rs (J + 1) q.i = false → anc ops r.i q.i = false := fun q hq hi => by
        cases hh : anc ops r.i q.i with
        | false => rfl
        | true =>
          exfalso
          unfold insd at hi
          rw [List.any_eq_false] at hi
          refine hi r hr ?_
          rw [hlw, hh, hjJ]
          simp [Nat.blt_eq]
      refine hK _ _ m' (J + 1) _ (h.next hg hlen hd hr hn hanc k1 k2 ?_ ?_ hJ1 ?_ (fun k => ?_) (others g1 k3.res))
      · refine (g3 m' s'.h.get s'.hm.get w' k1 k3.toRelH).part (fun id b hb => ?_) (fun id x hx => ?_)
        · rcases viewF_get s _ _ id b rs _ hb with h1 | ⟨q, h1, h2, h3, h4, rfl⟩
          · rw [hH] at h1
            unfold join; rw [h1]
          · have hqb : q.b.isSome = true := by rw [h2]; rfl
            have e1 : s'.h.get (2 * (s.nx + s.st * q.i)) = none := by
              have := mkOk_spec hmk h1 hqb hJ1 h4
              rwa [hH] at this
            have hqi : q.i ≠ r.i := fun e => by
              have := hg.inj hlen hd h1 hr e
              subst this
              rw [t6] at h2; cases h2
            have hql : listed.getD q.i false = true := by rwa [getD_set_ne false (fun e => hqi e.symm)] at h3
            have hi0 := insd_mono (Nat.le_succ J) h4
            have e2 : (view s ops rs (anc ops r.i) J).get (2 * (s.nx + s.st * q.i)) = none := by
              cases hv2 : (view s ops rs (anc ops r.i) J).get (2 * (s.nx + s.st * q.i)) with
              | none => rfl
              | some b2 =>
                exfalso
                rcases viewF_get s _ _ _ b2 rs _ hv2 with h5 | ⟨q2, h5, h6, h7, h8, h9⟩
                · rw [mkOk_spec hmk h1 hqb h.hJ hi0] at h5; cases h5
                · have := nx_inj hst h9
                  rw [← this, hins1 q h1 h4] at h7; cases h7
            unfold join
            rw [e1, e2]
            exact viewF_made s hst _ _ rs _ (hg.inj2 hlen hd) q h1 b h2 hql hi0
        · rw [hH] at hx
          unfold join; rw [hx]
      · intro q hq hql
        by_cases e : q.i = r.i
        · have := hg.inj hlen hd hq hr e
          subst this
          rw [getD_set_self (by rw [h.lsz]; exact hisz)]
          simp [hjJ]
        · rw [getD_set_ne false (fun x => e x.symm), h.hj q hq hql]
          constructor
          · intro hlt; omega
          · intro hlt
            rcases Nat.lt_or_ge q.j J with h' | h'
            · exact h'
            · exfalso
              have hqj : q.j = r.j := by omega
              rcases Nat.lt_trichotomy q.i r.i with h2 | h2 | h2
              · have := hg.j_lt hlen hd hq hr hql h2; omega
              · exact e h2
              · have := hg.j_lt hlen hd hr hq hlw h2; omega
      · obtain ⟨q, hq⟩ := t2
        exact ⟨q, by rw [t3]; exact hq⟩
      · have := (k3.fresh k).1
        rwa [t1, ← t3] at this
    | false =>
      have hlw : r.lw = false := by simp [Rec.lw, hl]
      cases hrdr : r.rd with
      | true =>
        -- it reads
        obtain ⟨s0, ev0, t1, t2⟩ := recOf_reader hrec hw hl hrdr
        have hev : ∃ s', evalAny P cf r.t r.o { h := view s ops rs (anc ops r.i) J, hm := (heapAt s rs J).2, nx := s.nx + s.st * r.i, st := s.st * (ops.size + 1) } = some (r.v, s') := by
          by_cases hjJ : J = r.j
          · obtain ⟨v1, v2⟩ := view_take (s := s) hg hlen hd hr
            rw [v1, v2, ← hjJ] at ev0
            exact ⟨s0, ev0⟩
          · have := List.all_eq_true.1 hrd r hr
            simp only [hw, hrdr, hl, Bool.not_false, Bool.and_self, Bool.not_true, Bool.false_or] at this
            have := List.all_eq_true.1 this J (by simp; have := h.hJ; omega)
            have hne : Nat.beq J r.j = false := by rw [Bool.eq_false_iff]; intro hb; exact hjJ (Nat.eq_of_beq_eq_true hb)
            have hmay : mayAt ops rs r.i J = true := by
              unfold mayAt
              rw [List.all_eq_true]
              intro c hc
              cases hcl : c.lw with
              | false => rfl
              | true =>
                simp only [Bool.not_true, Bool.false_or, Bool.and_eq_true, Bool.or_eq_true, Bool.not_eq_true']
                constructor
                · cases ha : anc ops r.i c.i with
                  | false => exact .inl rfl
                  | true =>
                    refine .inr ?_
                    have := (h.hj c hc hcl).1 (hanc _ ha)
                    simpa [Nat.blt_eq] using this
                · cases ha : anc ops c.i r.i with
                  | false => exact .inl rfl
                  | true =>
                    refine .inr ?_
                    rcases Nat.lt_or_ge c.j J with h' | h'
                    · exfalso
                      have := (h.hj c hc hcl).2 h'
                      rw [hnoanc _ this] at ha; cases ha
                    · exact Nat.ble_eq_true_of_le h'
            rw [hne, hmay] at this
            simp only [Bool.not_true, Bool.or_false, Bool.false_or] at this
            split at this
            · rename_i p hp
              simp only [Bool.and_eq_true] at this
              have := veq_spec 8 _ _ this.1
              exact ⟨p.2, by rw [← this]; exact hp⟩
            · cases this
        obtain ⟨s', ev⟩ := hev
        have hsame := reader_same (cf := cf) (by rw [← hrf.2.2.2.2.2.2]; exact hrdr) (by rw [← hrf.2.2.2.2.2.1]; exact hl) ev
        subst hsame
        have hsub : ∀ id b, (view s ops rs (anc ops r.i) J).get id = some b → (view s ops rs (fun i => listed.getD i false) J).get id = some b := fun id b => view_part hg hlen hd hst hmk h.hJ hanc id b
        obtain ⟨w0', g1, g2, g3⟩ := h.rel.split (view s ops rs (anc ops r.i) J).get (heapAt s rs J).2.get hsub (fun _ _ hx => hx) F' f1 f2
        have hRel : Rel w0' m { h := view s ops rs (anc ops r.i) J, hm := (heapAt s rs J).2, nx := s.nx + s.st * r.i, st := s.st * (ops.size + 1) } w := ⟨g2, hpos, by rw [g1]; exact f3⟩
        refine evalAny_wp0 hcf ev hRel h.glob (eval_looks h.glob hlook) fun m' v' w' k1 k2 k3 => ?_
        refine hK _ _ m' J _ (h.next hg hlen hd hr hn hanc k1 k2 ?_ (hj0 hlw) h.hJ ⟨0, by rw [t1]; simp⟩ (fun k => ?_) (others g1 k3.res))
        · refine (g3 m' _ _ w' k1 k3.toRelH).part (fun id b hb => ?_) (fun id x hx => ?_)
          · have hb2 := view_next hg hlen hd hst hmk h.hJ hr t2 id b hb
            unfold join
            cases hv2 : (view s ops rs (anc ops r.i) J).get id with
            | some b2 => have := hsub id b2 hv2; rw [hb2] at this; cases this; rfl
            | none => simp only [hb2]
          · unfold join; simp only [hx]
        · have := (k3.fresh k).1
          rwa [← t1] at this
      | false =>
        -- it looks at no memory
        obtain ⟨s', ev, t1, t2, t3, t4⟩ := recOf_maker hrec hw hl hrdr
        obtain ⟨w0', g1, g2, g3⟩ := h.rel.split (fun _ => none) (fun _ => none) (fun _ _ hx => by cases hx) (fun _ _ hx => by cases hx) F' f1 f2
        have hleaf : ∀ {α : Type}, (PT.leaf : PT α).get = fun _ => none := funext fun id => PT.get_leaf id
        have hRel : Rel w0' m { h := .leaf, hm := .leaf, nx := s.nx + s.st * r.i, st := s.st * (ops.size + 1) } w := ⟨by simp only [hleaf]; exact g2, hpos, by rw [g1]; exact f3⟩
        refine evalAny_wp0 hcf ev hRel h.glob (eval_looks h.glob hlook) fun m' v' w' k1 k2 k3 => ?_
        refine hK _ _ m' J _ (h.next hg hlen hd hr hn hanc k1 k2 ?_ (hj0 hlw) h.hJ ?_ (fun k => ?_) (others g1 k3.res))
        · have hp := k3.toRelH.part (g' := fun id => if id = 2 * (s.nx + s.st * r.i) then s'.h.get id else none) (gm' := fun _ => none) (fun id b hb => by
            by_cases e : id = 2 * (s.nx + s.st * r.i)
            · rw [if_pos e] at hb; exact hb
            · rw [if_neg e] at hb; cases hb) (fun _ _ hx => by cases hx)
          refine (g3 m' _ _ w' k1 hp).part (fun id b hb => ?_) (fun id x hx => ?_)
          · unfold join
            simp only
            rcases viewF_get s _ _ id b rs _ hb with h1 | ⟨q, h1, h2, h3, h4, rfl⟩
            · have hnot : (if id = 2 * (s.nx + s.st * r.i) then s'.h.get id else none) = none := by
                split
                · rename_i e
                  cases hbs : r.b with
                  | none => rw [e, ← t4]; exact hbs
                  | some b2 =>
                    exfalso
                    subst e
                    rw [mkOk_spec hmk hr (by rw [hbs]; rfl) h.hJ hins] at h1; cases h1
                · rfl
              rw [hnot]
              simp only
              unfold view
              rw [viewF_has s _ _ id rs _ fun q hq hqb _ hqi e => ?_]
              · exact h1
              · subst e
                rw [mkOk_spec hmk hq hqb h.hJ hqi] at h1; cases h1
            · by_cases e : q.i = r.i
              · have := hg.inj hlen hd h1 hr e
                subst this
                rw [if_pos rfl, ← t4, h2]
              · rw [if_neg (fun x => e (nx_inj hst x))]
                simp only
                refine viewF_made s hst _ _ rs _ (hg.inj2 hlen hd) q h1 b h2 ?_ h4
                rwa [getD_set_ne false (fun x => e x.symm)] at h3
          · unfold join; simp only; exact hx
        · obtain ⟨q, hq⟩ := t2
          exact ⟨q, by rw [t3]; exact hq⟩
        · have := (k3.fresh k).1
          rwa [t1, ← t3] at this

/-! ### the region -/
theorem ready_of {listed : Array Bool} (hd : DOk P ops) (hsz : listed.size = ops.size) (h : Region.ready .any ops listed = []) : ∀ i, i < ops.size → listed.getD i false = true := by
  intro i
  induction i using Nat.strongRecOn with
  | _ i ih =>
    intro hi
    cases hl : listed.getD i false with
    | true => rfl
    | false =>
      exfalso
      have ho : ops[i]? = some ops[i] := Array.getElem?_eq_getElem hi
      have : i ∈ Region.ready .any ops listed := mem_ready.2 ⟨by
        have : i < listed.size := by omega
        simp [Array.getD, this] at hl ⊢; exact hl, ops[i], ho, fun e he hb => ih e.on (hd.back i _ ho e he hb) (by have := hd.back i _ ho e he hb; omega)⟩
      rw [h] at this; cases this

def todoN (ops : Array Oper) (listed : Array Bool) : Nat := ((List.range ops.size).filter fun i => !listed.getD i false).length
theorem filter_len {p q : Nat → Bool} {i : Nat} (hpi : p i = true) (hqi : q i = false) (hpq : ∀ k, k ≠ i → p k = q k) : ∀ (n : Nat), i < n → ((List.range n).filter p).length = ((List.range n).filter q).length + 1
  | 0, h => by omega
  | n + 1, h => by
    rw [List.range_succ, List.filter_append, List.filter_append, List.length_append, List.length_append]
    by_cases e : i = n
    · subst e
      have hsame : (List.range i).filter p = (List.range i).filter q := List.filter_congr (fun k hk => hpq k (by have := List.mem_range.1 hk; omega))
      rw [hsame]
      simp [hpi, hqi]
    · have := filter_len hpi hqi hpq n (by omega)
      have h2 : [n].filter p = [n].filter q := List.filter_congr (fun k hk => hpq k (by simp at hk; omega))
      rw [h2, this]; omega

theorem draw_any (hcf : CallOk P cf) (hg : Good P cf s ops f0 rs f) (hlen : rs.length = ops.size) (hd : DOk P ops) (hst : 0 < s.st) (hrd : rdOk P cf s ops rs (nLoud rs) = true) (hmk : mkOk s ops rs (nLoud rs) = true) (hF : ∀ k, ¬ w0.F (2 * (s.nx + s.st * k)))
    {Q : Exit → Act → World → Prop} (hQ : ∀ listed a w m J cur, Inv ds s ops f0 rs w0 m0 listed a w m J cur → (∀ i, i < ops.size → listed.getD i false = true) → Q .normal a w) :
    ∀ (fuel : Nat) (listed : Array Bool) (a : Act) (w : World) (m : Map) (J : Nat) (cur : Nat → Nat), Inv ds s ops f0 rs w0 m0 listed a w m J cur → todoN ops listed = fuel → wpAny P .any ops Q fuel listed a w
  | 0, listed, a, w, m, J, cur, h, hf => by
    have hall : ∀ i, i < ops.size → listed.getD i false = true := fun i hi => by
      cases hl : listed.getD i false with
      | true => rfl
      | false =>
        exfalso
        have : i ∈ (List.range ops.size).filter fun i => !listed.getD i false := by rw [List.mem_filter]; exact ⟨by simpa using hi, by rw [hl]; rfl⟩
        rw [List.length_eq_zero_iff.1 hf] at this; cases this
    refine ⟨?_, hQ _ _ _ _ _ _ h hall⟩
    rw [List.eq_nil_iff_forall_not_mem]
    intro i hi
    obtain ⟨h1, o, ho, _⟩ := mem_ready.1 hi
    have hi2 : i < ops.size := by
      rcases Nat.lt_or_ge i ops.size with h' | h'
      · exact h'
      · rw [Array.getElem?_eq_none h'] at ho; cases ho
    have := hall i hi2
    have hls : i < listed.size := by rw [h.lsz]; exact hi2
    simp [Array.getD, hls] at h1 this
    rw [h1] at this; cases this
  | fuel + 1, listed, a, w, m, J, cur, h, hf => by
    refine ⟨fun h0 => hQ _ _ _ _ _ _ h (ready_of hd h.lsz h0), fun i hi => ?_⟩
    refine draw_step hcf hg hlen hd hst hrd hmk hF h hi fun a' w' m' J' cur' h' => ?_
    refine draw_any hcf hg hlen hd hst hrd hmk hF hQ fuel _ a' w' m' J' cur' h' ?_
    obtain ⟨h1, o, ho, _⟩ := mem_ready.1 hi
    have hi2 : i < ops.size := by
      rcases Nat.lt_or_ge i ops.size with h' | h'
      · exact h'
      · rw [Array.getElem?_eq_none h'] at ho; cases ho
    have hls : i < listed.size := by rw [h.lsz]; exact hi2
    have := filter_len (p := fun i => !listed.getD i false) (q := fun k => !(listed.setIfInBounds i true).getD k false) (i := i) (by simp [Array.getD, hls] at h1 ⊢; exact h1) (by rw [getD_set_self hls]; rfl) (fun k hk => by rw [getD_set_ne false (fun e => hk e.symm)]) ops.size hi2
    unfold todoN at hf ⊢
    omega

theorem foldl_max : ∀ (rs : List Rec) (x : Nat), x ≤ rs.foldl (fun a r => Nat.max a r.e) x ∧ (∀ r ∈ rs, r.e ≤ rs.foldl (fun a r => Nat.max a r.e) x) ∧ (rs.foldl (fun a r => Nat.max a r.e) x = x ∨ ∃ r ∈ rs, rs.foldl (fun a r => Nat.max a r.e) x = r.e)
  | [], x => ⟨Nat.le_refl _, (fun r h => by cases h), .inl rfl⟩
  | r :: rs, x => by
    obtain ⟨h1, h2, h3⟩ := foldl_max rs (Nat.max x r.e)
    simp only [List.foldl_cons]
    have hx : x ≤ Nat.max x r.e := Nat.le_max_left _ _
    have hr : r.e ≤ Nat.max x r.e := Nat.le_max_right _ _
    refine ⟨Nat.le_trans hx h1, fun q hq => ?_, ?_⟩
    · rcases List.mem_cons.1 hq with rfl | hq
      · exact Nat.le_trans hr h1
      · exact h2 q hq
    · rcases h3 with h3 | ⟨q, hq, h3⟩
      · rcases Nat.le_total x r.e with h' | h'
        · exact .inr ⟨r, by simp, by rw [h3]; exact Nat.max_eq_right h'⟩
        · exact .inl (by rw [h3]; exact Nat.max_eq_left h')
      · exact .inr ⟨q, by simp [hq], h3⟩

theorem drawE_any {cf : CallF} (hcf : CallOk P cf) {ops : Array Oper} {f0 f' : FS} (h : drawE P cf ops f0 = some f') {ds : List Deferred} {w0 : KW} {m : Map} {a : Act} {w : World} {Q : Exit → Act → World → Prop} (hR : FRel ds w0 m f0 a w)
    (hQ : ∀ m' a' w', m.le m' → FRel ds w0 m' f' a' w' → Q .normal a' w') : wpAny P .any ops Q ops.size (Array.replicate ops.size false) a { w with drawn := w.drawn + 1 } := by
  replace h := Option.bind_eq_some_iff.1 h; obtain ⟨_, hdk, h⟩ := h
  replace h := Option.bind_eq_some_iff.1 h; obtain ⟨p, hp, h⟩ := h
  replace h := Option.bind_eq_some_iff.1 h; obtain ⟨_, hck, h⟩ := h
  obtain ⟨rs, f⟩ := p
  simp only [Option.some.injEq] at h
  have hd := dOk_spec (ck_some hdk)
  have hck := ck_some hck
  simp only [Bool.and_eq_true] at hck
  obtain ⟨hrd, hmk⟩ := hck
  obtain ⟨hg, hlen⟩ := recsOf_good (f0 := f0) ops.toList [] rs f0 f hp (by simp) (by simp) ⟨fun k r hk => by simp at hk, fun d => rfl, rfl, rfl⟩
  have hst := hR.rel.pos
  refine draw_any (ds := ds) (w0 := w0) (m0 := m) hcf hg hlen hd hst hrd hmk (fun k => (hR.rel.fresh k).2) ?_ ops.size (Array.replicate ops.size false) a _ m 0 (fun i => f0.s.nx + f0.s.st * i) ?_ ?_
  · -- behind the region
    intro listed a' w' m' J cur hI hall
    have hJ : J = nLoud rs := by
      have h1 := hI.hJ
      rcases Nat.lt_or_ge J (nLoud rs) with h2 | h2
      · exfalso
        obtain ⟨r, r1, r2, r3, r4⟩ := hg.j_ex hlen hd rs.length J (Nat.le_refl _) (by rw [List.take_length]; exact h2)
        have := (hI.hj r r1 r3).1 (hall r.i (by omega))
        omega
      · omega
    subst hJ
    have hmem : ∀ r ∈ rs, listed.getD r.i false = true := fun r hr => hall r.i (by
      have := hg.mem hlen hd hr
      rcases Nat.lt_or_ge r.i rs.length with h' | h'
      · omega
      · rw [List.getElem?_eq_none h'] at this; cases this)
    have hview : view f0.s ops rs (fun _ => true) (nLoud rs) = view f0.s ops rs (fun i => listed.getD i false) (nLoud rs) := by
      have key : ∀ (l : List Rec) (h : PT Blk), (∀ r ∈ l, listed.getD r.i false = true) → viewF f0.s (insd ops rs (nLoud rs)) (fun _ => true) l h = viewF f0.s (insd ops rs (nLoud rs)) (fun i => listed.getD i false) l h := by
        intro l
        induction l with
        | nil => intro h _; rfl
        | cons r l ih =>
          intro h hl
          simp only [viewF, hl r (by simp)]
          cases r.b with
          | none => exact ih h fun q hq => hl q (by simp [hq])
          | some b => exact ih _ fun q hq => hl q (by simp [hq])
      exact key rs _ hmem
    subst h
    refine hQ m' a' w' hI.le ⟨⟨?_, hst, fun k => ⟨?_, ?_⟩⟩, hI.glob, fun d => ?_, by rw [hI.size]; exact hg.nt.symm, hI.defers⟩
    · simp only [hview]; exact hI.rel
    · -- the names that are left
      simp only
      obtain ⟨b1, b2, b3⟩ := foldl_max rs f0.s.nx
      -- where the counter stands
      have hmul : ∃ jm, rs.foldl (fun a r => Nat.max a r.e) f0.s.nx = f0.s.nx + f0.s.st * jm := by
        rcases b3 with b3 | ⟨r, hr, b3⟩
        · exact ⟨0, by rw [b3]; simp⟩
        · have hrl := hmem r hr
          have hri : r.i ≤ ops.size := by
            rcases Nat.lt_or_ge r.i ops.size with h' | h'
            · omega
            · have : listed.getD r.i false = false := by
                have : ¬ r.i < listed.size := by rw [hI.lsz]; omega
                simp [Array.getD, this]
              rw [this] at hrl; cases hrl
          obtain ⟨q, hq⟩ := (hI.ns r.i hri).1
          rw [hI.done r hr hrl] at hq
          refine ⟨r.i + (ops.size + 1) * q, ?_⟩
          rw [b3, hq]
          have h1 : f0.s.st * (r.i + (ops.size + 1) * q) = f0.s.st * r.i + f0.s.st * ((ops.size + 1) * q) := Nat.mul_add _ _ _
          have h2 : f0.s.st * ((ops.size + 1) * q) = f0.s.st * (ops.size + 1) * q := (Nat.mul_assoc _ _ _).symm
          omega
      obtain ⟨jm, hjm⟩ := hmul
      -- the class that it falls into
      let j := jm + k
      have hn1 : 0 < ops.size + 1 := by omega
      let i := j % (ops.size + 1)
      have hi : i ≤ ops.size := by have := Nat.mod_lt j hn1; omega
      have hjd : j = i + (ops.size + 1) * (j / (ops.size + 1)) := by have := Nat.mod_add_div j (ops.size + 1); omega
      have hid : rs.foldl (fun a r => Nat.max a r.e) f0.s.nx + f0.s.st * k = f0.s.nx + f0.s.st * i + f0.s.st * (ops.size + 1) * (j / (ops.size + 1)) := by
        have h0 : f0.s.st * j = f0.s.st * i + f0.s.st * (ops.size + 1) * (j / (ops.size + 1)) := by
          have h1 : f0.s.st * (i + (ops.size + 1) * (j / (ops.size + 1))) = f0.s.st * i + f0.s.st * ((ops.size + 1) * (j / (ops.size + 1))) := Nat.mul_add _ _ _
          have h2 : f0.s.st * ((ops.size + 1) * (j / (ops.size + 1))) = f0.s.st * (ops.size + 1) * (j / (ops.size + 1)) := (Nat.mul_assoc _ _ _).symm
          rw [← hjd] at h1
          omega
        have h3 : f0.s.st * j = f0.s.st * jm + f0.s.st * k := Nat.mul_add _ _ _
        omega
      rw [hid]
      obtain ⟨⟨q, hq⟩, hns⟩ := hI.ns i hi
      -- it lies at or behind that class's own counter
      have hge : q ≤ j / (ops.size + 1) := by
        rcases Nat.lt_or_ge i ops.size with h' | h'
        · obtain ⟨r, hr1, hr2, hr3, _⟩ := hg.get hlen hd (Array.getElem?_eq_getElem h')
          have he := hI.done r hr2 (hmem r hr2)
          rw [hr3, hq] at he
          have hle := b2 r hr2
          rw [hjm, ← he] at hle
          have h1 : f0.s.st * (i + (ops.size + 1) * q) ≤ f0.s.st * j := by
            have h1 : f0.s.st * (i + (ops.size + 1) * q) = f0.s.st * i + f0.s.st * ((ops.size + 1) * q) := Nat.mul_add _ _ _
            have h2 : f0.s.st * ((ops.size + 1) * q) = f0.s.st * (ops.size + 1) * q := (Nat.mul_assoc _ _ _).symm
            have h3 : f0.s.st * j = f0.s.st * jm + f0.s.st * k := Nat.mul_add _ _ _
            omega
          have h2 := Nat.le_of_mul_le_mul_left h1 hst
          have h3 : (ops.size + 1) * q ≤ (ops.size + 1) * (j / (ops.size + 1)) := by omega
          exact Nat.le_of_mul_le_mul_left h3 hn1
        · have hio : i = ops.size := by omega
          have hnl : listed.getD i false = false := by
            have : ¬ i < listed.size := by rw [hI.lsz]; omega
            simp [Array.getD, this]
          have := hI.todo i hi hnl
          rw [hq] at this
          have h0 : f0.s.st * (ops.size + 1) * q = 0 := by omega
          rcases Nat.eq_zero_or_pos q with h2 | h2
          · rw [h2]; exact Nat.zero_le _
          · exfalso
            have : 0 < f0.s.st * (ops.size + 1) * q := Nat.mul_pos (Nat.mul_pos hst hn1) h2
            omega
      have := hns (j / (ops.size + 1) - q)
      rw [hq] at this
      rw [← this]
      congr 2
      have h1 : f0.s.st * (ops.size + 1) * (j / (ops.size + 1)) = f0.s.st * (ops.size + 1) * q + f0.s.st * (ops.size + 1) * (j / (ops.size + 1) - q) := by
        rw [← Nat.mul_add]; congr 1; omega
      omega
    · simp only
      obtain ⟨b1, b2, b3⟩ := foldl_max rs f0.s.nx
      rcases b3 with b3 | ⟨r, hr, b3⟩
      · rw [b3]; exact (hR.rel.fresh k).2
      · have hrl := hmem r hr
        have hri : r.i ≤ ops.size := by
          rcases Nat.lt_or_ge r.i ops.size with h' | h'
          · omega
          · have : listed.getD r.i false = false := by
              have : ¬ r.i < listed.size := by rw [hI.lsz]; omega
              simp [Array.getD, this]
            rw [this] at hrl; cases hrl
        obtain ⟨q, hq⟩ := (hI.ns r.i hri).1
        rw [hI.done r hr hrl] at hq
        rw [b3, hq]
        have := (hR.rel.fresh (r.i + (ops.size + 1) * q + k)).2
        have h0 : f0.s.st * (r.i + (ops.size + 1) * q + k) = f0.s.st * r.i + f0.s.st * (ops.size + 1) * q + f0.s.st * k := by
          rw [Nat.mul_add, Nat.mul_add, ← Nat.mul_assoc]
        rw [h0] at this
        rw [show f0.s.nx + f0.s.st * r.i + f0.s.st * (ops.size + 1) * q + f0.s.st * k = f0.s.nx + (f0.s.st * r.i + f0.s.st * (ops.size + 1) * q + f0.s.st * k) from by omega]
        exact this
    · simp only
      have := hI.tmps d
      rw [hg.tmp d]
      have e : tmpAt f0 rs d = tmpS f0 rs (fun i => listed.getD i false) d := by
        unfold tmpAt tmpS
        have key : ∀ (l : List Rec) (x : Value), (∀ r ∈ l, listed.getD r.i false = true) → l.foldl (fun x r => if r.o.dst = some d then r.v else x) x = l.foldl (fun x r => if r.o.dst = some d ∧ listed.getD r.i false = true then r.v else x) x := by
          intro l
          induction l with
          | nil => intro x _; rfl
          | cons r l ih =>
            intro x hl
            simp only [List.foldl_cons, hl r (by simp), and_true]
            exact ih _ fun q hq => hl q (by simp [hq])
        exact key rs _ hmem
      rw [e]; exact this
  · -- ahead of it
    have hno : ∀ i, (Array.replicate ops.size false).getD i false = false := fun i => by simp [Array.getD]
    refine ⟨Map.le_refl m, hR.glob, ?_, (fun r hr hl => by simp [hno]), Nat.zero_le _, fun i hi => ⟨⟨0, by simp⟩, fun k => ?_⟩, (fun r hr hl => by rw [hno] at hl; cases hl), fun i hi _ => rfl, (fun i f hi => by rw [hno] at hi; cases hi), fun d => ?_, hR.size, hR.defers, by simp⟩
    · have h0 : heapAt f0.s rs 0 = (f0.s.h, f0.s.hm) := by
        have key : ∀ l : List Rec, heapAt f0.s l 0 = (f0.s.h, f0.s.hm) := by
          intro l
          induction l with
          | nil => rfl
          | cons r l ih =>
            simp only [heapAt]
            have : (r.lw && Nat.beq (r.j + 1) 0) = false := by
              cases r.lw <;> rfl
            rw [this]; exact ih
        exact key rs
      unfold view
      simp only [hno, h0]
      rw [viewF_none _ _ _ rs _ fun _ _ => rfl]
      exact hR.rel.drew.toRelH
    · have := (hR.rel.fresh (i + (ops.size + 1) * k)).1
      have h0 : f0.s.st * (i + (ops.size + 1) * k) = f0.s.st * i + f0.s.st * (ops.size + 1) * k := by
        rw [Nat.mul_add, ← Nat.mul_assoc]
      rw [h0] at this
      rw [show f0.s.nx + f0.s.st * i + f0.s.st * (ops.size + 1) * k = f0.s.nx + (f0.s.st * i + f0.s.st * (ops.size + 1) * k) from by omega]
      exact this
    · unfold tmpS
      simp only [hno]
      rw [foldl_none (fun r => r.o.dst = some d ∧ false = true) (·.v) rs _ (fun r _ hc => by cases hc.2)]
      exact hR.tmps d
  · unfold todoN
    have : ((List.range ops.size).filter fun i => !(Array.replicate ops.size false).getD i false) = List.range ops.size := by
      rw [List.filter_eq_self]
      intro i hi
      simp [Array.getD]
    rw [this]; simp

theorem drawE_ok (hm : P.follows .mixedOrders = true) : ∀ cf, CallOk P cf → DrawOk P (drawE P cf) :=
  fun cf hcf ops f0 f' h ds w0 m a w id Q hR hQ => wp_region_any hm (drawE_any hcf h hR hQ)

end Go.AE
