import Derived.Test.YtkbclhkcceennaaDoorAeOpsB
set_option linter.unusedSimpArgs false
set_option linter.unusedVariables false
namespace Go.AE
open Go Go.RowKit

variable {P : Program} {w0 : KW} {m : Map} {s s' : St} {w : World} {v : Value}

inductive OVR (m : Map) : Option Value → Option Value → Prop
  | none : OVR m none none
  | some {x x' : Value} (h : VR m x x') : OVR m (some x) (some x')
theorem OVR.map {m : Map} {ρ ρ' : Operand → Value} (x : Option Operand) (h : ∀ y ∈ x.toArray, VR m (ρ y) (ρ' y)) : OVR m (x.map ρ) (x.map ρ') := by
  cases x with
  | none => exact .none
  | some y => exact .some (h y (by simp))

theorem r_bound {y y' : Value} {i top top' : Nat} {code : BoundsCode} (h : asIdx y = some i) (hle : i ≤ top) (ht : top ≤ top') (hv : VR m y y') (w : World) : (Instr.sliceBound y' top' code).run P w = .ok i w := by
  obtain ⟨k, rfl⟩ := asIdx_VR h hv
  have : i ≤ top' := Nat.le_trans hle ht
  simp [Instr.sliceBound, asIntOf, this]

theorem bnd_some {y : Value} {d top i : Nat} (h : bnd (some y) d top = some i) : asIdx y = some i ∧ i ≤ top := by
  replace h := Option.bind_eq_some_iff.1 h; obtain ⟨j, hj, h⟩ := h
  replace h := Option.bind_eq_some_iff.1 h; obtain ⟨_, hc, h⟩ := h
  simp only [Option.some.injEq] at h; subst h
  exact ⟨hj, Nat.le_of_ble_eq_true (ck_some hc)⟩

theorem r_sliceBounds {lo hi mx lo' hi' mx' : Option Value} {isSl : Bool} {len cap cap' mm h l : Nat} (h1 : bnd mx cap cap = some mm) (h2 : bnd hi len mm = some h) (h3 : bnd lo 0 h = some l) (h4 : (mx.isNone || hi.isSome) = true)
    (hlo : OVR m lo lo') (hhi : OVR m hi hi') (hmx : OVR m mx mx') (hcap : cap ≤ cap') (w : World) :
    (Instr.sliceBounds isSl len cap' lo' hi' mx').run P w = .ok (l, h, if mx.isNone then cap' else mm) w := by
  cases hmx with
  | none =>
    simp only [bnd, Option.some.injEq] at h1; subst h1
    cases hhi with
    | none =>
      simp only [bnd, Option.some.injEq] at h2; subst h2
      cases hlo with
      | none =>
        simp only [bnd, Option.some.injEq] at h3; subst h3
        simp [Instr.sliceBounds]
      | some hl =>
        obtain ⟨l1, l2⟩ := bnd_some h3
        simp [Instr.sliceBounds, r_bound l1 l2 (Nat.le_refl _) hl]
    | some hv =>
      obtain ⟨k1, k2⟩ := bnd_some h2
      cases hlo with
      | none =>
        simp only [bnd, Option.some.injEq] at h3; subst h3
        simp [Instr.sliceBounds, r_bound k1 k2 hcap hv]
      | some hl =>
        obtain ⟨l1, l2⟩ := bnd_some h3
        simp [Instr.sliceBounds, r_bound k1 k2 hcap hv, r_bound l1 l2 (Nat.le_refl _) hl]
  | some hm =>
    obtain ⟨e1, e2⟩ := bnd_some h1
    cases hhi with
    | none => simp at h4
    | some hv =>
      obtain ⟨k1, k2⟩ := bnd_some h2
      cases hlo with
      | none =>
        simp only [bnd, Option.some.injEq] at h3; subst h3
        simp [Instr.sliceBounds, r_bound k1 k2 (Nat.le_refl _) hv, r_bound e1 e2 hcap hm]
      | some hl =>
        obtain ⟨l1, l2⟩ := bnd_some h3
        simp [Instr.sliceBounds, r_bound k1 k2 (Nat.le_refl _) hv, r_bound e1 e2 hcap hm, r_bound l1 l2 (Nat.le_refl _) hl]

theorem eSlice_sound {t : TypeId} {x x' : Value} {lo hi mx lo' hi' mx' : Option Value} (h : eSlice P t x lo hi mx s = some (v, s')) (hR : Rel w0 m s w) (hx : VR m x x') (hlo : OVR m lo lo') (hhi : OVR m hi hi') (hmx : OVR m mx mx') :
    Out w0 m s' v ((Instr.sliceAt t x' lo' hi' mx').run P w) := by
  unfold eSlice at h
  split at h
  · rename_i a len cap
    replace h := Option.bind_eq_some_iff.1 h; obtain ⟨d, hd, h⟩ := h
    replace h := Option.bind_eq_some_iff.1 h; obtain ⟨e, he, h⟩ := h
    replace h := Option.bind_eq_some_iff.1 h; obtain ⟨sz, hsz, h⟩ := h
    replace h := Option.bind_eq_some_iff.1 h; obtain ⟨_, h4, h⟩ := h
    replace h := Option.bind_eq_some_iff.1 h; obtain ⟨mm, h1, h⟩ := h
    replace h := Option.bind_eq_some_iff.1 h; obtain ⟨hh, h2, h⟩ := h
    replace h := Option.bind_eq_some_iff.1 h; obtain ⟨l, h3, h⟩ := h
    replace h := Option.bind_eq_some_iff.1 h; obtain ⟨_, hhm, h⟩ := h
    have hhm := Nat.le_of_ble_eq_true (ck_some hhm)
    have h4 := ck_some h4
    obtain rfl := sliceE_eq he
    have hmc : mm ≤ cap := by
      cases mx with
      | none => simp only [bnd, Option.some.injEq] at h1; omega
      | some y => exact (bnd_some h1).2
    have run : ∀ (a' : Option Addr) (cap' : Nat), cap ≤ cap' → (Instr.sliceAt t (.slice a' len cap') lo' hi' mx').run P w =
        .ok (.slice (if (if mx.isNone then cap' else mm) = l then a' else a'.map (·.add (l * sz))) (hh - l) ((if mx.isNone then cap' else mm) - l)) w := fun a' cap' hc => by
      simp only [Instr.sliceAt, Instr.slice, Sem.run_bind, r_underlying hd, Result.andThen_ok, r_sliceBounds h1 h2 h3 h4 hlo hhi hmx hc, r_size hsz, Sem.run_pure]
    cases hx with
    | slice0 n c =>
      simp only [Option.some.injEq, Prod.mk.injEq] at h
      obtain ⟨rfl, rfl⟩ := h
      have em : (if mx.isNone then cap else mm) = mm := by
        cases mx with
        | none => simp only [bnd, Option.some.injEq] at h1; simpa using h1
        | some y => rfl
      refine (Out.here (.slice0 _ _) hR).cast ?_
      rw [run none cap (Nat.le_refl _), em]
      simp
    | sliceE a a' ll hl hex hs hbb =>
      simp only at h
      replace h := Option.bind_eq_some_iff.1 h; obtain ⟨b, hb, h⟩ := h
      obtain ⟨l2, hl2, hbr⟩ := hR.blk _ b hb
      rw [hl] at hl2; cases hl2
      have hbe : b.exact = false := by rw [← hbr.ex]; exact hex
      simp only [hbe] at h
      replace h := Option.bind_eq_some_iff.1 h; obtain ⟨_, hz, h⟩ := h
      simp only [Option.some.injEq, Prod.mk.injEq] at h
      obtain ⟨rfl, rfl⟩ := h
      have hm0 : mm = 0 := by omega
      have hh0 : hh = 0 := by
        cases hi with
        | none => simp only [bnd, Option.some.injEq] at h2; omega
        | some y => have := (bnd_some h2).2; omega
      have hl0 : l = 0 := by
        cases lo with
        | none => simp only [bnd, Option.some.injEq] at h3; omega
        | some y => have := (bnd_some h3).2; omega
      subst hm0; subst hh0; subst hl0
      have em : (if mx.isNone then 0 else 0) = 0 := by split <;> rfl
      refine (Out.here (VR.sliceE (a.add (0 * sz)) a' ll (by rw [Addr_add' a hs]; exact hl) hex (by rw [Addr_add' a hs]) hbb) hR).cast ?_
      rw [run (some a') 0 (Nat.le_refl _), em]
      simp
    | slice a ll n c c' hl hs hec hcc hn =>
      simp only at h
      replace h := Option.bind_eq_some_iff.1 h; obtain ⟨b, hb, h⟩ := h
      obtain ⟨l2, hl2, hbr⟩ := hR.blk _ b hb
      rw [hl] at hl2; cases hl2
      have hlh : l ≤ hh := by
        cases lo with
        | none => simp only [bnd, Option.some.injEq] at h3; omega
        | some y => exact (bnd_some h3).2
      have hlm : l ≤ mm := Nat.le_trans hlh hhm
      split at h
      · rename_i hbe
        simp only [Option.some.injEq, Prod.mk.injEq] at h
        obtain ⟨rfl, rfl⟩ := h
        have hex : ll.exact = true := by rw [hbr.ex]; exact hbe
        have := hec hex
        subst this
        have em : (if mx.isNone then c' else mm) = mm := by
          cases mx with
          | none => simp only [bnd, Option.some.injEq] at h1; simpa using h1
          | some y => rfl
        refine (Out.here (v' := .slice (some (if mm = l then ⟨ll.blk, ll.sh + a.off, none⟩ else (⟨ll.blk, ll.sh + a.off, none⟩ : Addr).add (l * sz))) (hh - l) (mm - l)) ?_ hR).cast ?_
        · by_cases e0 : mm = l
          · subst e0
            rw [if_pos rfl, show Nat.beq mm mm = true from by simp, cond_true]
            exact VR.slice a ll _ _ _ hl hs (fun _ => rfl) (Nat.le_refl _) (fun hx => by rw [hex] at hx; cases hx)
          · rw [if_neg e0, show Nat.beq mm l = false from by rw [Bool.eq_false_iff]; intro hx; exact e0 (Nat.eq_of_beq_eq_true hx), cond_false, Addr_add]
            have := VR.slice (m := m) (a.add (l * sz)) ll (hh - l) (mm - l) (mm - l) (by rw [Addr_add' a hs]; exact hl) (by rw [Addr_add' a hs]) (fun _ => rfl) (Nat.le_refl _) (fun hx => by rw [hex] at hx; cases hx)
            rw [Addr_add' a hs] at this ⊢
            simpa [Nat.add_assoc] using this
        · rw [run _ c' hcc, em]
          by_cases e0 : mm = l <;> simp [e0]
      · rename_i hbe
        replace h := Option.bind_eq_some_iff.1 h; obtain ⟨_, hz, h⟩ := h
        simp only [Option.some.injEq, Prod.mk.injEq] at h
        obtain ⟨rfl, rfl⟩ := h
        have hex : ll.exact = false := by rw [hbr.ex]; exact hbe
        have hzz := Nat.eq_of_beq_eq_true (ck_some hz)
        have hes := hbr.es hbe
        have hn' := hn hex
        rw [hes, ← hzz] at hn'
        have hM : ∃ M, (if mx.isNone then c' else mm) = M ∧ mm ≤ M ∧ M ≤ c' := by
          cases mx with
          | none => simp only [bnd, Option.some.injEq] at h1; exact ⟨c', rfl, by omega, Nat.le_refl _⟩
          | some y => exact ⟨mm, rfl, Nat.le_refl _, by omega⟩
        obtain ⟨M, hM1, hM2, hM3⟩ := hM
        by_cases e0 : M = l
        · have e1 : mm = l := by omega
          have hh0 : hh - l = 0 := by omega
          refine (Out.here (v' := .slice (some ⟨ll.blk, ll.sh + a.off, none⟩) (hh - l) (M - l)) ?_ hR).cast ?_
          · rw [hh0, e0, e1, Nat.sub_self]
            exact VR.sliceE (a.add (l * sz)) _ ll (by rw [Addr_add' a hs]; exact hl) hex (by rw [Addr_add' a hs]) ⟨rfl, rfl⟩
          · rw [run _ c' hcc, hM1, if_pos e0]
        · refine (Out.here (v' := .slice (some ((⟨ll.blk, ll.sh + a.off, none⟩ : Addr).add (l * sz))) (hh - l) (M - l)) ?_ hR).cast ?_
          · have := VR.slice (m := m) (a.add (l * sz)) ll (hh - l) (mm - l) (M - l) (by rw [Addr_add' a hs]; exact hl) (by rw [Addr_add' a hs]) (fun hx => by rw [hex] at hx; cases hx) (by omega)
              (fun _ => by
                rw [hes, ← hzz, Addr_add' a hs]
                simp only
                have e3 : l * sz + (M - l) * sz = M * sz := by rw [← Nat.add_mul]; congr 1; omega
                have e4 : M * sz ≤ c' * sz := Nat.mul_le_mul_right sz hM3
                omega)
            rw [Addr_add' a hs] at this ⊢
            rw [Addr_add]
            simpa [Nat.add_assoc] using this
          · rw [run _ c' hcc, hM1, if_neg e0]; rfl
  · rename_i b
    replace h := Option.bind_eq_some_iff.1 h; obtain ⟨d, hd, h⟩ := h
    split at h
    · replace h := Option.bind_eq_some_iff.1 h; obtain ⟨hh, h2, h⟩ := h
      replace h := Option.bind_eq_some_iff.1 h; obtain ⟨l, h3, h⟩ := h
      replace h := Option.bind_eq_some_iff.1 h; obtain ⟨_, h4, h⟩ := h
      simp only [Option.some.injEq, Prod.mk.injEq] at h
      obtain ⟨rfl, rfl⟩ := h
      have h4 := ck_some h4
      cases hmx with
      | some => simp at h4
      | none =>
        cases hx
        refine (Out.here (.string _) hR).cast ?_
        have := r_sliceBounds (P := P) (m := m) (isSl := false) (mx := none) (mx' := none) (cap := b.size) (cap' := b.size) rfl h2 h3 rfl hlo hhi .none (Nat.le_refl _) w
        simp only [Instr.sliceAt, Instr.slice, Sem.run_bind, r_underlying hd, Result.andThen_ok, Option.isSome_none, Bool.false_eq_true, if_false, this, Sem.run_pure]
    · cases h
  · cases h
end Go.AE
