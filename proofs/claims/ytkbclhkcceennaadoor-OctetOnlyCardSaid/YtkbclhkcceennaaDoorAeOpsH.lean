import Derived.Test.YtkbclhkcceennaaDoorAeOpsG
set_option linter.unusedSimpArgs false
set_option linter.unusedVariables false
namespace Go.AE
open Go Go.RowKit

variable {P : Program} {w0 : KW} {m : Map} {s s' : St} {w : World} {v : Value}

/-- An operation of the model comes out as the abstract one. -/
def NOut (w0 : KW) (m : Map) (s' : St) (v : Value) (r : Result Next) : Prop :=
  ∃ m' w' v' nx, r = .ok nx w' ∧ m.le m' ∧ VR m' v v' ∧ Rel w0 m' s' w' ∧ (nx = .value v' ∨ (nx = .skip ∧ v' = undef))

theorem Out.next {x : Sem Value} (h : Out w0 m s' v (x.run P w)) : NOut w0 m s' v ((do pure (.value (← x)) : Sem Next).run P w) := by
  obtain ⟨m', w', v', h1, h2, h3, h4⟩ := h
  exact ⟨m', w', v', .value v', by simp only [Sem.run_bind, h1, Result.andThen_ok, Sem.run_pure], h2, h3, h4, .inl rfl⟩
theorem NOut.here {v v' : Value} (hv : VR m v v') (hR : Rel w0 m s w) : NOut w0 m s v (.ok (.value v') w) := ⟨m, w, v', .value v', rfl, Map.le_refl m, hv, hR, .inl rfl⟩
theorem NOut.cast {r r' : Result Next} (h : NOut w0 m s' v r) (e : r' = r) : NOut w0 m s' v r' := e ▸ h
theorem NOut.skip {x : Sem Unit} (h : ∃ w', x.run P w = .ok () w' ∧ v = undef ∧ Rel w0 m s' w') : NOut w0 m s' v ((do x; pure .skip : Sem Next).run P w) := by
  obtain ⟨w', h1, rfl, h2⟩ := h
  exact ⟨m, w', undef, .skip, by simp only [Sem.run_bind, h1, Result.andThen_ok, Sem.run_pure], Map.le_refl m, .tuple _ _ rfl (fun i x x' h => by simp at h), h2, .inr ⟨rfl, rfl⟩⟩

theorem orElse_some {α : Type} {x : Option α} {y : Unit → Option α} {a : α} (h : orElse x y = some a) : x = some a ∨ y () = some a := by
  unfold orElse at h
  split at h
  · exact .inl h
  · exact .inr h

theorem ePure_sound {ρ ρ' : Operand → Value} {o : Oper} (h : ePure P ρ o s = some (v, s')) (hR : Rel w0 m s w) (hρ : ∀ x ∈ o.op.operands, VR m (ρ x) (ρ' x)) (hs : ∀ cs b, o.op ≠ .select cs b) : NOut w0 m s' v ((execOp ρ' o).run P w) := by
  replace h := Option.bind_eq_some_iff.1 h; obtain ⟨_, hp, h⟩ := h
  replace h := Option.bind_eq_some_iff.1 h; obtain ⟨r, hr, h⟩ := h
  have hp := ck_some hp
  have he : execOp ρ' o = execOp ρ o := (execOp_congr o hs (fun x hx => (plain_eq 8 _ _ (all_mem hp x (Array.mem_toList_iff.2 hx)) (hρ x hx)).symm)).symm
  split at h
  · replace h := Option.bind_eq_some_iff.1 h; obtain ⟨_, hpv, h⟩ := h
    simp only [Option.some.injEq, Prod.mk.injEq] at h
    obtain ⟨rfl, rfl⟩ := h
    refine (NOut.here (plain_VR m 8 _ (ck_some hpv)) hR).cast ?_
    rw [he]
    exact pureEval_run P _ _ hr w
  · cases h

theorem toList2 {α : Type} {a : Array α} {x y : α} (h : a.toList = [x, y]) : a = #[x, y] := by rw [← Array.toArray_toList (xs := a), h]
theorem toList1 {α : Type} {a : Array α} {x : α} (h : a.toList = [x]) : a = #[x] := by rw [← Array.toArray_toList (xs := a), h]

theorem evalOp_sound {ρ ρ' : Operand → Value} {o : Oper} (h : evalOp P ρ o s = some (v, s')) (hR : Rel w0 m s w) (hρ : ∀ x ∈ o.op.operands, VR m (ρ x) (ρ' x)) : NOut w0 m s' v ((execOp ρ' o).run P w) := by
  have hps := fun (hs : ∀ cs b, o.op ≠ .select cs b) (h : ePure P ρ o s = some (v, s')) => ePure_sound h hR hρ hs
  unfold evalOp at h
  split at h
  case h_1 x ho =>
    rw [ho] at hρ
    simp only [Option.some.injEq, Prod.mk.injEq] at h; obtain ⟨rfl, rfl⟩ := h
    exact (NOut.here (hρ x (by simp [Op.operands])) hR).cast (by simp only [execOp, ho]; rfl)
  case h_2 x ho =>
    rw [ho] at hρ
    simp only [Option.some.injEq, Prod.mk.injEq] at h; obtain ⟨rfl, rfl⟩ := h
    exact (NOut.here (hρ x (by simp [Op.operands])) hR).cast (by simp only [execOp, ho]; rfl)
  case h_3 c a b ho =>
    rw [ho] at hρ
    have hc := hρ c (by simp [Op.operands])
    split at h
    · rename_i hb
      simp only [Option.some.injEq, Prod.mk.injEq] at h; obtain ⟨rfl, rfl⟩ := h
      rw [hb] at hc; cases hc' : ρ' c <;> rw [hc'] at hc <;> cases hc
      exact (NOut.here (hρ a (by simp [Op.operands])) hR).cast (by simp only [execOp, ho, hc', asBool]; rfl)
    · rename_i hb
      simp only [Option.some.injEq, Prod.mk.injEq] at h; obtain ⟨rfl, rfl⟩ := h
      rw [hb] at hc; cases hc' : ρ' c <;> rw [hc'] at hc <;> cases hc
      exact (NOut.here (hρ b (by simp [Op.operands])) hR).cast (by simp only [execOp, ho, hc', asBool]; rfl)
    · cases h
  case h_4 e ho => exact (eAlloc_sound h hR).next.cast (by simp only [execOp, ho])
  case h_5 e x ho => rw [ho] at hρ; exact (eBox_sound (P := P) h hR (hρ x (by simp [Op.operands]))).next.cast (by simp only [execOp, ho])
  case h_6 t a ho => rw [ho] at hρ; exact (eLoad_sound h hR (hρ a (by simp [Op.operands]))).next.cast (by simp only [execOp, ho])
  case h_7 t a x ho => rw [ho] at hρ; exact (NOut.skip (eStore_sound h hR (hρ a (by simp [Op.operands])) (hρ x (by simp [Op.operands])))).cast (by simp only [execOp, ho])
  case h_8 x ho =>
    rw [ho] at hρ
    have hx := hρ x (by simp [Op.operands])
    unfold eNil at h
    split at h
    · rename_i a hb
      simp only [Option.some.injEq, Prod.mk.injEq] at h; obtain ⟨rfl, rfl⟩ := h
      rw [hb] at hx
      cases hx' : ρ' x <;> rw [hx'] at hx <;> try (cases hx; done)
      rename_i a'
      cases a' with
      | none => cases hx
      | some a' => exact (NOut.here hx hR).cast (by simp only [execOp, ho, hx']; rfl)
    · rename_i f a b hb
      simp only [Option.some.injEq, Prod.mk.injEq] at h; obtain ⟨rfl, rfl⟩ := h
      rw [hb] at hx
      cases hx' : ρ' x <;> rw [hx'] at hx <;> try (cases hx; done)
      rename_i f' a' b'
      have hf : f' = .func f := by cases hx; rfl
      subst hf
      exact (NOut.here hx hR).cast (by simp only [execOp, ho, hx']; rfl)
    · cases h
  case h_9 t x f ho => rw [ho] at hρ; exact (eFieldAddr_sound h hR (hρ x (by simp [Op.operands]))).next.cast (by simp only [execOp, ho])
  case h_10 t x ix ho => rw [ho] at hρ; exact (eIndexAddr_sound h hR (hρ x (by simp [Op.operands])) (hρ ix (by simp [Op.operands]))).next.cast (by simp only [execOp, ho])
  case h_11 t x f ho => rw [ho] at hρ; exact (eField_sound h hR (hρ x (by simp [Op.operands]))).next.cast (by simp only [execOp, ho])
  case h_12 t x ix ho => rw [ho] at hρ; exact (eIndex_sound h hR (hρ x (by simp [Op.operands])) (hρ ix (by simp [Op.operands]))).next.cast (by simp only [execOp, ho])
  case h_13 x ix ho => rw [ho] at hρ; exact (eExtract_sound (P := P) h hR (hρ x (by simp [Op.operands]))).next.cast (by simp only [execOp, ho])
  case h_14 t parts ho =>
    rw [ho] at hρ
    exact (eBuild_sound (ρ' := ρ') h hR (fun p hp => hρ p.2 (by simp [Op.operands]; exact ⟨p.1, by simpa using hp⟩))).next.cast (by simp only [execOp, ho])
  case h_15 t len parts ho =>
    rw [ho] at hρ
    exact (eBuildSlice_sound (ρ' := ρ') h hR (fun p hp => hρ p.2 (by simp [Op.operands]; exact ⟨p.1, by simpa using hp⟩))).next.cast (by simp only [execOp, ho])
  case h_16 t l c ho => rw [ho] at hρ; exact (eMakeSlice_sound h hR (hρ l (by simp [Op.operands])) (hρ c (by simp [Op.operands]))).next.cast (by simp only [execOp, ho])
  case h_17 t x lo hi mx ho =>
    rw [ho] at hρ
    have hx := hρ x (by simp [Op.operands])
    have hlo : OVR m (lo.map ρ) (lo.map ρ') := OVR.map lo (fun y hy => hρ y (by simp [Op.operands] at hy ⊢; exact .inr (.inl hy)))
    have hhi : OVR m (hi.map ρ) (hi.map ρ') := OVR.map hi (fun y hy => hρ y (by simp [Op.operands] at hy ⊢; exact .inr (.inr (.inl hy))))
    have hmx : OVR m (mx.map ρ) (mx.map ρ') := OVR.map mx (fun y hy => hρ y (by simp [Op.operands] at hy ⊢; exact .inr (.inr (.inr hy))))
    split at h
    · exact (eSliceArr_sound h hR hx hlo hhi hmx).next.cast (by simp only [execOp, ho])
    · exact (eSlice_sound h hR hx hlo hhi hmx).next.cast (by simp only [execOp, ho])
  case h_18 src dst x ho =>
    have hx := hρ x (by rw [ho]; simp [Op.operands])
    split at h
    · exact hps (fun cs b hb => by rw [ho] at hb; cases hb) h
    · rcases orElse_some h with h | h
      · exact (eToString_sound h hR hx).next.cast (by simp only [execOp, ho])
      · exact hps (fun cs b hb => by rw [ho] at hb; cases hb) h
    · exact (eToString_sound h hR hx).next.cast (by simp only [execOp, ho])
  case h_19 t r ho =>
    rw [ho] at hρ
    exact (eMakeMap_sound h hR (OVR.map r (fun y hy => hρ y (by simpa [Op.operands] using hy)))).next.cast (by simp only [execOp, ho])
  case h_20 t x ix ok ho => rw [ho] at hρ; exact (eLookup_sound h hR (hρ x (by simp [Op.operands])) (hρ ix (by simp [Op.operands]))).next.cast (by simp only [execOp, ho])
  case h_21 t mm k x ho => rw [ho] at hρ; exact (NOut.skip (eMapUpdate_sound h hR (hρ mm (by simp [Op.operands])) (hρ k (by simp [Op.operands])) (hρ x (by simp [Op.operands])))).cast (by simp only [execOp, ho])
  case h_22 t mm k x ho => rw [ho] at hρ; exact (NOut.skip (eMapUpdate_sound h hR (hρ mm (by simp [Op.operands])) (hρ k (by simp [Op.operands])) (hρ x (by simp [Op.operands])))).cast (by simp only [execOp, ho])
  case h_23 fn first captured ho =>
    rw [ho] at hρ
    simp only [Option.some.injEq, Prod.mk.injEq] at h; obtain ⟨rfl, rfl⟩ := h
    have arr : ∀ xs : Array Operand, (∀ x ∈ xs, VR m (ρ x) (ρ' x)) → ∀ (i : Nat) y y', (xs.map ρ)[i]? = some y → (xs.map ρ')[i]? = some y' → VR m y y' := fun xs hxs i y y' h1 h2 => by
      rw [Array.getElem?_map] at h1 h2
      cases hx : xs[i]? with
      | none => rw [hx] at h1; cases h1
      | some x => rw [hx] at h1 h2; cases h1; cases h2; exact hxs x (Array.mem_of_getElem? hx)
    refine (NOut.here (v' := .func fn (first.map ρ') (captured.map ρ')) ?_ hR).cast (by simp only [execOp, ho]; rfl)
    exact .func fn _ _ _ _ (by simp) (by simp) (arr first fun x hx => hρ x (by simp [Op.operands, hx])) (arr captured fun x hx => hρ x (by simp [Op.operands, hx]))
  case h_24 op t x y yt ho =>
    have hx := hρ x (by rw [ho]; simp [Op.operands])
    have hy := hρ y (by rw [ho]; simp [Op.operands])
    split at h
    · rcases orElse_some h with h | h
      · replace h := Option.bind_eq_some_iff.1 h; obtain ⟨b, hb, h⟩ := h
        simp only [Option.some.injEq, Prod.mk.injEq] at h; obtain ⟨rfl, rfl⟩ := h
        have := (eEqNil_sound (w := w) hb hx hy x y).1
        refine (NOut.here (.bool b) hR).cast ?_
        simp only [execOp, ho, Sem.run_bind] at this ⊢
        rw [this]; rfl
      · exact hps (fun cs b hb => by rw [ho] at hb; cases hb) h
    · rcases orElse_some h with h | h
      · replace h := Option.bind_eq_some_iff.1 h; obtain ⟨b, hb, h⟩ := h
        simp only [Option.some.injEq, Prod.mk.injEq] at h; obtain ⟨rfl, rfl⟩ := h
        have := (eEqNil_sound (w := w) hb hx hy x y).2
        refine (NOut.here (.bool (!b)) hR).cast ?_
        simp only [execOp, ho, Sem.run_bind] at this ⊢
        rw [this]; rfl
      · exact hps (fun cs b hb => by rw [ho] at hb; cases hb) h
    · exact hps (fun cs b hb => by rw [ho] at hb; cases hb) h
  case h_25 b args argTypes ho =>
    rw [ho] at hρ
    split at h
    · split at h
      · rename_i t ty x y ht ha
        have ht := toList2 ht
        have ha := toList2 ha
        subst ht; subst ha
        exact (eAppend_sound (rt := o.type) h hR (hρ x (by simp [Op.operands, Call.operands])) (hρ y (by simp [Op.operands, Call.operands]))).next.cast (by simp [execOp, ho, resolve, invoke, builtin])
      · cases h
    · split at h
      · rename_i t x ht ha
        have ht := toList1 ht
        have ha := toList1 ha
        subst ht; subst ha
        exact (eLen_sound (rt := o.type) h hR (hρ x (by simp [Op.operands, Call.operands]))).next.cast (by simp [execOp, ho, resolve, invoke, builtin])
      · cases h
    · split at h
      · rename_i t t2 x y ht ha
        have ht := toList2 ht
        have ha := toList2 ha
        subst ht; subst ha
        exact (eCopy_sound (rt := o.type) (t2 := t2) h hR (hρ x (by simp [Op.operands, Call.operands])) (hρ y (by simp [Op.operands, Call.operands]))).next.cast (by simp [execOp, ho, resolve, invoke, builtin])
      · cases h
    · exact hps (fun cs b hb => by rw [ho] at hb; cases hb) h
    · exact hps (fun cs b hb => by rw [ho] at hb; cases hb) h
    · cases h
  case h_26 _ _ ho => exact hps (fun cs b hb => by rw [ho] at hb; cases hb) h
  case h_27 _ _ ho => exact hps (fun cs b hb => by rw [ho] at hb; cases hb) h
  case h_28 _ _ ho => exact hps (fun cs b hb => by rw [ho] at hb; cases hb) h
  case h_29 => cases h

end Go.AE
