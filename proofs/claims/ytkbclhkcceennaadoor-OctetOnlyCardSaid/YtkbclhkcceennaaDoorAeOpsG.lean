import Derived.Test.YtkbclhkcceennaaDoorAeOpsF
set_option linter.unusedSimpArgs false
set_option linter.unusedVariables false
namespace Go.AE
open Go Go.RowKit

variable {P : Program} {w0 : KW} {m : Map} {s s' : St} {w : World} {v : Value}

theorem eEqNil_sound {t : TypeId} {x y x' y' : Value} {b : Bool} (h : eEqNil P t x y = some b) (hx : VR m x x') (hy : VR m y y') (ox oy : Operand) :
    (do eqGuard .eql t ox oy x' y'; binOp .eql t x' y').run P w = .ok (.bool b) w ∧ (do eqGuard .neq t ox oy x' y'; binOp .neq t x' y').run P w = .ok (.bool !b) w := by
  replace h := Option.bind_eq_some_iff.1 h; obtain ⟨d, hd, h⟩ := h
  have fin : (∀ n : Nat, (Op.equalIn (n + 1) t x' y').run P w = .ok b w) → eqGuard .eql t ox oy x' y' = pure () → eqGuard .neq t ox oy x' y' = pure () → binOp .eql t x' y' = (do pure (.bool (← Op.equal t x' y'))) → binOp .neq t x' y' = (do pure (.bool (!(← Op.equal t x' y')))) →
      (do eqGuard .eql t ox oy x' y'; binOp .eql t x' y').run P w = .ok (.bool b) w ∧ (do eqGuard .neq t ox oy x' y'; binOp .neq t x' y').run P w = .ok (.bool !b) w := fun h0 h1 h2 h3 h4 => by
    have he : (Op.equal t x' y').run P w = .ok b w := h0 9999
    rw [h1, h2, h3, h4]
    simp only [Sem.run_bind, Sem.run_pure, Result.andThen_ok, he, and_self]
  split at h <;> first | (cases h; done) | skip
  all_goals
    simp only [Option.some.injEq] at h; subst h
    cases hx <;> cases hy <;> exact fin (fun n => by simp only [Op.equalIn, Sem.run_bind, r_underlying hd, Result.andThen_ok, Sem.run_pure, Option.isNone_none, Option.isNone_some]) rfl rfl rfl rfl

theorem eLen_sound {t rt : TypeId} {x x' : Value} (h : eLen P t x s = some (v, s')) (hR : Rel w0 m s w) (hx : VR m x x') : Out w0 m s' v ((Builtin.len_ #[t] rt #[x']).run P w) := by
  replace h := Option.bind_eq_some_iff.1 h; obtain ⟨d, hd, h⟩ := h
  split at h
  · simp only [Option.some.injEq, Prod.mk.injEq] at h
    obtain ⟨rfl, rfl⟩ := h
    refine (Out.here (.int _ _) hR).cast ?_
    cases hx <;> simp [Builtin.len_, r_underlying hd, goInt]
  · simp only [Option.some.injEq, Prod.mk.injEq] at h
    obtain ⟨rfl, rfl⟩ := h
    cases hx
    refine (Out.here (.int _ _) hR).cast ?_
    simp [Builtin.len_, r_underlying hd, goInt]
  · simp only [Option.some.injEq, Prod.mk.injEq] at h
    obtain ⟨rfl, rfl⟩ := h
    refine (Out.here (.int _ _) hR).cast ?_
    simp [Builtin.len_, r_underlying hd, goInt]
  · cases h

theorem copySrc_sound {sz dl k : Nat} {y y' : Value} {vs : List Value} (hk : copySrc sz dl y s = some (k, vs)) (hR : Rel w0 m s w) (hy : VR m y y') :
    ∃ n vs', (Builtin.lenOf y').run P w = .ok n w ∧ Nat.min n dl = k ∧ VRs m vs vs' ∧ vs.length = k * sz ∧ (Builtin.firstCells sz k y').run P w = .ok vs'.toArray w := by
  unfold copySrc at hk
  split at hk
  · rename_i a n c
    replace hk := Option.bind_eq_some_iff.1 hk; obtain ⟨u, hu, hk⟩ := hk
    simp only [Option.some.injEq, Prod.mk.injEq] at hk
    obtain ⟨rfl, rfl⟩ := hk
    have hlen := loads_len hu
    cases hy with
    | slice a l n c c' hl hs he hcc hn =>
      obtain ⟨vs', k1, k2, k3, k4⟩ := hR.run_loads P hl hu
      exact ⟨n, vs', rfl, rfl, k1, hlen, by simpa [Builtin.firstCells] using k4⟩
    | sliceE a a' l hl he hs hb =>
      have hm0 : Nat.min 0 dl = 0 := by simp [Nat.min_def]
      have : u = [] := List.length_eq_zero_iff.1 (by rw [hlen, hm0]; simp)
      subst this
      refine ⟨0, [], rfl, rfl, VRs.nil m, hlen, ?_⟩
      rw [hm0]
      simp [Builtin.firstCells, loadCells, loadCellsFrom]
  · rename_i n c
    replace hk := Option.bind_eq_some_iff.1 hk; obtain ⟨_, hc, hk⟩ := hk
    simp only [Option.some.injEq, Prod.mk.injEq] at hk
    obtain ⟨rfl, rfl⟩ := hk
    have := Nat.eq_of_beq_eq_true (ck_some hc)
    subst this
    cases hy
    exact ⟨0, [], rfl, by simp [Nat.min_def], VRs.nil m, by simp, rfl⟩
  · rename_i b
    replace hk := Option.bind_eq_some_iff.1 hk; obtain ⟨_, hc, hk⟩ := hk
    simp only [Option.some.injEq, Prod.mk.injEq] at hk
    obtain ⟨rfl, rfl⟩ := hk
    have := Nat.eq_of_beq_eq_true (ck_some hc)
    subst this
    cases hy
    have hmin : Nat.min b.size dl ≤ b.size := Nat.min_le_left _ _
    refine ⟨b.size, _, rfl, rfl, ofBytes_VR m _, ?_, ?_⟩
    · rw [ofBytes_len]; simp [ByteArray.size_extract]
    · simp only [Builtin.firstCells, Sem.run_pure, ofBytes]
      congr 1
      rw [← List.map_toArray]
  · cases hk

theorem eCopy_sound {t t2 rt : TypeId} {x y x' y' : Value} (h : eCopy P t x y s = some (v, s')) (hR : Rel w0 m s w) (hx : VR m x x') (hy : VR m y y') : Out w0 m s' v ((Builtin.copy_ #[t, t2] rt #[x', y']).run P w) := by
  replace h := Option.bind_eq_some_iff.1 h; obtain ⟨d, hd, h⟩ := h
  replace h := Option.bind_eq_some_iff.1 h; obtain ⟨e, he, h⟩ := h
  replace h := Option.bind_eq_some_iff.1 h; obtain ⟨sz, hsz, h⟩ := h
  obtain rfl := sliceE_eq he
  split at h
  case h_2 => cases h
  rename_i base dl cap
  replace h := Option.bind_eq_some_iff.1 h; obtain ⟨kv, hkv, h⟩ := h
  obtain ⟨k, vs⟩ := kv
  obtain ⟨n, vs', r1, r2, r3, r4, r5⟩ := copySrc_sound (P := P) hkv hR hy
  simp only at h
  have hvl : vs'.length = k * sz := by rw [← r3.1, r4]
  split at h
  · rename_i hk0
    have hk0 := Nat.eq_of_beq_eq_true hk0
    subst hk0
    simp only [Option.some.injEq, Prod.mk.injEq] at h
    obtain ⟨rfl, rfl⟩ := h
    have : vs' = [] := List.length_eq_zero_iff.1 (by omega)
    subst this
    have go : ∀ (b' : Option Addr) (c' : Nat), (Builtin.copy_ #[t, t2] rt #[.slice b' dl c', y']).run P w = .ok (.int .i64 0) w := fun b' c' => by
      cases b' <;> simp [Builtin.copy_, r_underlying hd, r1, r2, r_size hsz, r5, storeCells, goInt]
    refine (Out.here (.int _ _) hR).cast ?_
    cases hx with
    | slice0 => exact go _ _
    | slice => exact go _ _
    | sliceE => exact go _ _
  · rename_i a hk0
    replace h := Option.bind_eq_some_iff.1 h; obtain ⟨s1, hs1, h⟩ := h
    simp only [Option.some.injEq, Prod.mk.injEq] at h
    obtain ⟨rfl, rfl⟩ := h
    have hkp : k ≠ 0 := by rintro rfl; cases hk0
    cases hx with
    | slice a l n' c c' hl hs he2 hcc hn' =>
      obtain ⟨k1, k2⟩ := hR.run_stores P hl r3 hs1
      refine ⟨m, _, .int .i64 k, ?_, Map.le_refl m, .int _ _, k2⟩
      simp [Builtin.copy_, r_underlying hd, r1, r2, r_size hsz, r5, k1, goInt]
    | sliceE => exfalso; exact hkp (by rw [← r2]; simp [Nat.min_def])
  · cases h

/-! ### maps -/
theorem Rel.allocMap (h : Rel w0 m s w) :
    ∃ m', m.le m' ∧ (∃ l, m' (2 * s.nx) = some l ∧ l.blk = w.heap.size) ∧ Rel w0 m' { s with hm := s.hm.set (2 * s.nx) (some (#[], 0)), nx := s.nx + s.st } (w.alloc (.map #[] 0)) := by
  obtain ⟨hnew, hnF⟩ := h.fresh0
  have hle := Map.le_upd hnew ⟨w.heap.size, 0, true, 0, 0⟩
  have hwn : (w.alloc (.map #[] 0)).heap[w.heap.size]? = some (.map #[] 0) := by
    show (w.heap.push _)[w.heap.size]? = _
    simp
  have old : ∀ {k : Nat} {b : Blk} {lk : Loc}, s.h.get k = some b → upd m (2 * s.nx) (some ⟨w.heap.size, 0, true, 0, 0⟩) k = some lk → m k = some lk := fun {k b lk} h1 h2 => by
    obtain ⟨l, h3, _⟩ := h.blk k b h1
    have := hle _ _ h3
    rw [h2] at this; cases this; exact h3
  refine ⟨_, hle, ⟨_, upd_same _ _ _, rfl⟩, ⟨⟨h.below.alloc _, fun i hi => ?_, fun i b hb => ?_, fun i j bi bj li lj hi hj hli hlj hbb => h.inj i j bi bj li lj hi hj (old hi hli) (old hj hlj) hbb, fun i x hx => ?_, fun i j xi xj li lj hi hj hli hlj hbb => ?_⟩, h.pos, fun k => ?_⟩⟩
  · rw [upd_ne _ _ (by rintro rfl; exact hnF hi)]; exact h.res i hi
  · obtain ⟨l, k1, k2⟩ := h.blk i b hb
    exact ⟨l, hle _ _ k1, (k2.mono hle).world (Below.heap_alloc _ _ _ k2.lt)⟩
  · simp only [PT.get_set] at hx
    by_cases e : i = 2 * s.nx
    · subst e
      rw [if_pos rfl] at hx; cases hx
      exact ⟨_, upd_same _ _ _, hwn, h.below.new⟩
    · rw [if_neg e] at hx
      obtain ⟨l, k1, k2, k3⟩ := h.maps i x hx
      exact ⟨l, hle _ _ k1, by rw [Below.heap_alloc _ _ _ (heap_lt k2)]; exact k2, k3⟩
  · simp only [PT.get_set] at hi hj
    have lo : ∀ {k : Nat} {x : Array MapEntry × Nat} {lk : Loc}, k ≠ 2 * s.nx → s.hm.get k = some x → m k = some lk → lk.blk < w.heap.size := fun {k x lk} _ h1 h2 => by
      obtain ⟨l, h3, h4, _⟩ := h.maps k x h1
      rw [h2] at h3; cases h3; exact heap_lt h4
    by_cases ei : i = 2 * s.nx
    · by_cases ej : j = 2 * s.nx
      · rw [ei, ej]
      · rw [if_neg ej] at hj; rw [upd_ne _ _ ej] at hlj
        have h1 := lo ej hj hlj
        rw [ei, upd_same] at hli; cases hli
        simp only at hbb; omega
    · rw [if_neg ei] at hi; rw [upd_ne _ _ ei] at hli
      have h1 := lo ei hi hli
      by_cases ej : j = 2 * s.nx
      · rw [ej, upd_same] at hlj; cases hlj
        simp only at hbb; omega
      · rw [if_neg ej] at hj; rw [upd_ne _ _ ej] at hlj
        exact h.minj i j xi xj li lj hi hj hli hlj hbb
  · obtain ⟨k1, k2, k3⟩ := h.fresh1 k
    exact ⟨by simp only; rw [upd_ne _ _ k3]; exact k1, k2⟩

theorem Rel.setMap (h : Rel w0 m s w) {id : Nat} {x : Array MapEntry × Nat} {l : Loc} (hx : s.hm.get id = some x) (hl : m id = some l) (y : Array MapEntry × Nat) :
    Rel w0 m { s with hm := s.hm.set id (some y) } { w with heap := w.heap.setIfInBounds l.blk (.map y.1 y.2) } := by
  obtain ⟨l2, hl2, hw, hB⟩ := h.maps id x hx
  rw [hl] at hl2; cases hl2
  have hlt := heap_lt hw
  have hne : ∀ j, j ≠ l.blk → (w.heap.setIfInBounds l.blk (.map y.1 y.2))[j]? = w.heap[j]? := fun j hj => by rw [Array.getElem?_setIfInBounds_ne (fun h => hj h.symm)]
  refine ⟨⟨h.below.step rfl rfl rfl (by simp) fun k hk => hne k (fun e => hB (e ▸ hk)), h.res, fun i b hb => ?_, h.inj, fun i z hz => ?_, fun i j xi xj li lj hi hj => ?_⟩, h.pos, h.fresh⟩
  · obtain ⟨li, k1, k2⟩ := h.blk i b hb
    refine ⟨li, k1, k2.world (hne _ (fun hx => ?_))⟩
    obtain ⟨cs, fr, t0, te, c1, _⟩ := k2.obj
    rw [hx, hw] at c1; cases c1
  · simp only [PT.get_set] at hz
    by_cases e : i = id
    · subst e
      rw [if_pos rfl] at hz; cases hz
      exact ⟨l, hl, by simp only; rw [Array.getElem?_setIfInBounds_self_of_lt hlt], hB⟩
    · rw [if_neg e] at hz
      obtain ⟨li, k1, k2, k3⟩ := h.maps i z hz
      exact ⟨li, k1, by simp only; rw [hne _ (fun hb => e (h.minj i id z x li l hz hx k1 hl hb))]; exact k2, k3⟩
  · have ex : ∀ {k : Nat} {z : Array MapEntry × Nat}, (s.hm.set id (some y)).get k = some z → ∃ z', s.hm.get k = some z' := fun {k z} hk => by
      rw [PT.get_set] at hk
      by_cases e : k = id
      · exact ⟨x, by rw [e]; exact hx⟩
      · rw [if_neg e] at hk; exact ⟨z, hk⟩
    obtain ⟨xi', hi'⟩ := ex hi
    obtain ⟨xj', hj'⟩ := ex hj
    exact h.minj i j xi' xj' li lj hi' hj'

theorem eMakeMap_sound {t : TypeId} {r r' : Option Value} (h : eMakeMap P t r s = some (v, s')) (hR : Rel w0 m s w) (hr : OVR m r r') : Out w0 m s' v ((Instr.makeMap t r').run P w) := by
  replace h := Option.bind_eq_some_iff.1 h; obtain ⟨_, hc1, h⟩ := h
  simp only [Option.some.injEq, Prod.mk.injEq] at h
  obtain ⟨rfl, rfl⟩ := h
  have hc1 := ck_some hc1
  obtain ⟨m', hle, ⟨l, hl, hb⟩, hR'⟩ := hR.allocMap
  refine ⟨m', _, .map (some w.heap.size), ?_, hle, by rw [← hb]; exact .map _ l hl, hR'⟩
  have hn : ∀ w : World, (newObj (.map #[] 0)).run P w = .ok w.heap.size (w.alloc (.map #[] 0)) := fun w => rfl
  cases hr with
  | none => simp [Instr.makeMap, hn]
  | some hv =>
    simp only [Bool.and_eq_true] at hc1
    obtain ⟨hi, hu⟩ := hc1
    obtain ⟨i, hi⟩ := Option.isSome_iff_exists.1 hi
    obtain ⟨k, rfl⟩ := asIdx_VR hi hv
    split at hu
    · rename_i a b hd
      simp [Instr.makeMap, hn, r_underlying hd, asInt, asIntOf]
    · cases hu

theorem run_getObj {r : Nat} {es : Array MapEntry} {c : Nat} (h : w.heap[r]? = some (.map es c)) : (getObj r).run P w = .ok (.map es c) w := by
  simp [getObj, Sem.run, h]

theorem eLookup_sound {t : TypeId} {x x' ix ix' : Value} {ok : Bool} (h : eLookup P t x ix ok s = some (v, s')) (hR : Rel w0 m s w) (hx : VR m x x') (hi : VR m ix ix') : Out w0 m s' v ((Instr.lookup t x' ix' ok).run P w) := by
  replace h := Option.bind_eq_some_iff.1 h; obtain ⟨d, hd, h⟩ := h
  replace h := Option.bind_eq_some_iff.1 h; obtain ⟨ke, hke, h⟩ := h
  replace h := Option.bind_eq_some_iff.1 h; obtain ⟨_, hp, h⟩ := h
  obtain rfl := mapT_eq hke
  have := plain_eq _ _ _ (ck_some hp) hi
  subst this
  split at h
  · rename_i r
    replace h := Option.bind_eq_some_iff.1 h; obtain ⟨mm, hm, h⟩ := h
    replace h := Option.bind_eq_some_iff.1 h; obtain ⟨u, hu, h⟩ := h
    replace h := Option.bind_eq_some_iff.1 h; obtain ⟨_, hpu, h⟩ := h
    simp only [Option.some.injEq, Prod.mk.injEq] at h
    obtain ⟨rfl, rfl⟩ := h
    cases hx with
    | map r l hl =>
      obtain ⟨l2, hl2, hw, hB⟩ := hR.maps r mm hm
      rw [hl] at hl2; cases hl2
      refine (Out.here (plain_VR m 8 _ (ck_some hpu)) hR).cast ?_
      have := pureEval_run P _ _ hu w
      rw [← this]
      simp only [Instr.lookup, Sem.run_bind, r_underlying hd, Result.andThen_ok, run_getObj hw, Sem.run_pure, lookRest]
      exact congrArg _ (funext fun _ => funext fun _ => congrArg _ (funext fun a => funext fun _ => by cases a <;> rfl))
  · cases h

theorem eMapUpdate_sound {t : TypeId} {x x' k k' y y' : Value} (h : eMapUpdate P t x k y s = some (v, s')) (hR : Rel w0 m s w) (hx : VR m x x') (hk : VR m k k') (hy : VR m y y') :
    ∃ w', (Instr.mapUpdate t x' k' y').run P w = .ok () w' ∧ v = undef ∧ Rel w0 m s' w' := by
  replace h := Option.bind_eq_some_iff.1 h; obtain ⟨d, hd, h⟩ := h
  replace h := Option.bind_eq_some_iff.1 h; obtain ⟨ke, hke, h⟩ := h
  replace h := Option.bind_eq_some_iff.1 h; obtain ⟨_, hp, h⟩ := h
  obtain rfl := mapT_eq hke
  have hp := ck_some hp
  simp only [Bool.and_eq_true] at hp
  have := plain_eq _ _ _ hp.1 hk
  subst this
  have := plain_eq _ _ _ hp.2 hy
  subst this
  split at h
  · rename_i r
    replace h := Option.bind_eq_some_iff.1 h; obtain ⟨mm, hm, h⟩ := h
    replace h := Option.bind_eq_some_iff.1 h; obtain ⟨_, hck, h⟩ := h
    replace h := Option.bind_eq_some_iff.1 h; obtain ⟨f, hf, h⟩ := h
    have hck := pureEval_run P _ _ hck w
    have hf := pureEval_run P _ _ hf w
    cases hx with
    | map r l hl =>
      obtain ⟨l2, hl2, hw, hB⟩ := hR.maps r mm hm
      rw [hl] at hl2; cases hl2
      have hset : ∀ o : Obj, (setObj l.blk o).run P w = .ok () { w with heap := w.heap.setIfInBounds l.blk o } := fun o => by simp [setObj, Sem.run, hw]
      split at h
      · rename_i i _
        replace h := Option.bind_eq_some_iff.1 h; obtain ⟨_, hsb, h⟩ := h
        simp only [Option.some.injEq, Prod.mk.injEq] at h
        obtain ⟨rfl, rfl⟩ := h
        have hsb := ck_some hsb
        refine ⟨_, ?_, rfl, hR.setMap hm hl _⟩
        simp only [Instr.mapUpdate, Sem.run_bind, r_underlying hd, Result.andThen_ok, run_getObj hw, hck, hf, Instr.keyThatStays, hsb, if_true, Sem.run_pure, hset]
      · simp only [Option.some.injEq, Prod.mk.injEq] at h
        obtain ⟨rfl, rfl⟩ := h
        refine ⟨_, ?_, rfl, hR.setMap hm hl _⟩
        simp only [Instr.mapUpdate, Sem.run_bind, r_underlying hd, Result.andThen_ok, run_getObj hw, hck, hf, Sem.run_pure, hset]
  · cases h

end Go.AE
