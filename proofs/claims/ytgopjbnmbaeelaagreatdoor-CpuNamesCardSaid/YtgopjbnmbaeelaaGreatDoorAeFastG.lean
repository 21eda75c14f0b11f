import Derived.Test.YtgopjbnmbaeelaaGreatDoorAeFastF
set_option linter.unusedVariables false
set_option linter.unusedSimpArgs false
namespace Go.AE.F
open Go Go.AE
variable {P : Program}

theorem putT_nt {f f' : FS} {d : Option Tmp} {v : Value} {s : St} (h : putT f d v s = some f') : f'.nt = f.nt := by
  unfold putT at h
  cases d with
  | none => cases h; rfl
  | some d =>
    simp only [ck] at h
    cases hb : Nat.blt d f.nt with
    | false => rw [hb] at h; cases h
    | true => rw [hb] at h; cases h; rfl
theorem evalOps_nt {cf : CallF} {ops : Array Oper} : ∀ (l : List Oper) (f f' : FS), evalOps P cf ops l f = some f' → f'.nt = f.nt
  | [], f, f', h => by cases h; rfl
  | o :: l, f, f', h => by
    unfold evalOps at h
    split at h
    · cases h1 : evalAny P cf f.t o f.s with
      | none => rw [h1] at h; cases h
      | some p =>
        rw [h1] at h
        simp only [Option.bind] at h
        cases h2 : putT f o.dst p.1 p.2 with
        | none => rw [h2] at h; cases h
        | some g =>
          rw [h2] at h
          rw [evalOps_nt l g f' h, putT_nt h2]
    · cases h2 : putT f o.dst undef f.s with
      | none => rw [h2] at h; cases h
      | some g =>
        rw [h2] at h
        rw [evalOps_nt l g f' h, putT_nt h2]
theorem loopE_nt {body : FS → Option (Ex × FS)} (hb : ∀ f e f', body f = some (e, f') → f'.nt = f.nt) : ∀ (n : Nat) (f : FS) (e : Ex) (f' : FS), loopE body n f = some (e, f') → f'.nt = f.nt
  | 0, f, e, f', h => by cases h
  | n + 1, f, e, f', h => by
    unfold loopE at h
    cases h1 : body f with
    | none => rw [h1] at h; cases h
    | some p =>
      obtain ⟨e1, f1⟩ := p
      rw [h1] at h
      simp only [Option.bind] at h
      cases e1 with
      | normal => rw [loopE_nt hb n f1 e f' h, hb f _ f1 h1]
      | exit i => cases h; exact hb f _ _ h1
      | ret => cases h; exact hb f _ _ h1
def KeepsNt (df : DrawF) : Prop := ∀ ops f f', df ops f = some f' → f'.nt = f.nt
theorem evalCode_nt {cf : CallF} {df : DrawF} (hdf : KeepsNt df) {lf : Nat} : ∀ (c : Code) (f : FS) (e : Ex) (f' : FS), evalCode P cf df lf c f = some (e, f') → f'.nt = f.nt
  | .skip, f, e, f', h => by cases h; rfl
  | .region _ ops draw, f, e, f', h => by
    cases draw with
    | false =>
      simp only [evalCode] at h
      cases h1 : evalOps P cf ops ops.toList f with
      | none => rw [h1] at h; cases h
      | some g => rw [h1] at h; cases h; exact evalOps_nt _ _ _ h1
    | true =>
      simp only [evalCode] at h
      cases h1 : df ops f with
      | none => rw [h1] at h; cases h
      | some g => rw [h1] at h; cases h; exact hdf _ _ _ h1
  | .seq a b, f, e, f', h => by
    simp only [evalCode] at h
    cases h1 : evalCode P cf df lf a f with
    | none => rw [h1] at h; cases h
    | some p =>
      obtain ⟨e1, f1⟩ := p
      rw [h1] at h
      simp only [Option.bind] at h
      cases e1 with
      | normal => rw [evalCode_nt hdf b f1 e f' h, evalCode_nt hdf a f _ f1 h1]
      | exit i => cases h; exact evalCode_nt hdf a f _ _ h1
      | ret => cases h; exact evalCode_nt hdf a f _ _ h1
  | .cond c a b, f, e, f', h => by
    simp only [evalCode] at h
    split at h
    · exact evalCode_nt hdf a f e f' h
    · exact evalCode_nt hdf b f e f' h
    · cases h
  | .block id a, f, e, f', h => by
    simp only [evalCode] at h
    cases h1 : evalCode P cf df lf a f with
    | none => rw [h1] at h; cases h
    | some p =>
      obtain ⟨e1, f1⟩ := p
      have := evalCode_nt hdf a f _ f1 h1
      rw [h1] at h
      simp only [Option.bind] at h
      cases e1 with
      | normal => cases h; exact this
      | exit i =>
        simp only at h
        cases hb : Nat.beq i id <;> rw [hb] at h <;> cases h <;> exact this
      | ret => cases h; exact this
  | .loop a, f, e, f', h => by
    simp only [evalCode] at h
    exact loopE_nt (fun f e f' => evalCode_nt hdf a f e f') lf f e f' h
  | .exit i, f, e, f', h => by cases h; rfl
  | .ret, f, e, f', h => by cases h; rfl
  | .rangeFunc .., f, e, f', h | .scope .., f, e, f', h | .label .., f, e, f', h | .goto .., f, e, f', h | .refuse .., f, e, f', h => by simp only [evalCode] at h; cases h

abbrev thenC (r : Option (Ex × FS)) (K : Ex → PT Value → St → A) : A := r.bind fun p => K p.1 p.2.t p.2.s

theorem loopK_eq {body : CC} {bE : FS → Option (Ex × FS)} {nt : Nat} (hnt : ∀ f e f', bE f = some (e, f') → f'.nt = f.nt) (hb : ∀ t s K, body.go t s K = thenC (bE ⟨t, nt, s⟩) K) :
    ∀ (n : Nat) (t : PT Value) (s : St) (K : Ex → PT Value → St → A), loopK body n t s K = thenC (loopE bE n ⟨t, nt, s⟩) K
  | 0, t, s, K => rfl
  | n + 1, t, s, K => by
    show (body.go t s fun e t' s' => Ex.rec (motive := fun _ => A) (loopK body n t' s' K) (fun i => K (.exit i) t' s') (K .ret t' s') e) = _
    rw [hb]
    unfold thenC loopE
    cases h1 : bE ⟨t, nt, s⟩ with
    | none => rfl
    | some p =>
      obtain ⟨e, ⟨t', nt', s'⟩⟩ := p
      have : nt' = nt := hnt _ _ _ h1
      subst this
      cases e with
      | normal => exact loopK_eq hnt hb n t' s' K
      | exit i => rfl
      | ret => rfl

def DkOk (nt : Nat) (dk : Array Oper → RC) (df : DrawF) : Prop := ∀ ops t s (K : PT Value → St → A), (dk ops).go t s K = (df ops ⟨t, nt, s⟩).bind fun f => K f.t f.s

theorem compCode_eq {cf : CF} (hn : Nat' cf) {df : DrawF} (hdf : KeepsNt df) {dk : Array Oper → RC} (lf nt : Nat) (hdk : DkOk nt dk df) : ∀ (c : Code) (t : PT Value) (s : St) (K : Ex → PT Value → St → A),
    (compCode P cf dk lf nt c).go t s K = thenC (evalCode P (cfD cf) df lf c ⟨t, nt, s⟩) K
  | .skip, t, s, K => rfl
  | .region id ops draw, t, s, K => by
    cases draw with
    | false =>
      show ((compOps P cf nt ops ops.toList).go t s fun t' s' => K .normal t' s') = _
      rw [compOps_eq hn]
      simp only [evalCode, thenC]
      cases evalOps P (cfD cf) ops ops.toList ⟨t, nt, s⟩ <;> rfl
    | true =>
      show ((dk ops).go t s fun t' s' => K .normal t' s') = _
      rw [hdk]
      simp only [evalCode, thenC]
      cases df ops ⟨t, nt, s⟩ <;> rfl
  | .seq a b, t, s, K => by
    show ((compCode P cf dk lf nt a).go t s fun e t' s' => Ex.rec (motive := fun _ => A) ((compCode P cf dk lf nt b).go t' s' K) (fun i => K (.exit i) t' s') (K .ret t' s') e) = _
    rw [compCode_eq hn hdf lf nt hdk a]
    simp only [evalCode, thenC]
    cases h1 : evalCode P (cfD cf) df lf a ⟨t, nt, s⟩ with
    | none => rfl
    | some p =>
      obtain ⟨e, ⟨t', nt', s'⟩⟩ := p
      have : nt' = nt := evalCode_nt hdf a _ _ _ h1
      subst this
      cases e with
      | normal => exact compCode_eq hn hdf lf nt' hdk b t' s' K
      | exit i => rfl
      | ret => rfl
  | .cond c a b, t, s, K => by
    show (opd c t fun v => condK v ((compCode P cf dk lf nt a).go t s K) ((compCode P cf dk lf nt b).go t s K)) = _
    rw [opd_eq, compCode_eq hn hdf lf nt hdk a, compCode_eq hn hdf lf nt hdk b]
    simp only [evalCode, thenC]
    cases ρof t c with
    | bool q => cases q <;> rfl
    | _ => rfl
  | .block id a, t, s, K => by
    show ((compCode P cf dk lf nt a).go t s fun e t' s' => Ex.rec (motive := fun _ => A) (K .normal t' s') (fun i => iteB (Nat.beq i id) (K .normal t' s') (K (.exit i) t' s')) (K .ret t' s') e) = _
    rw [compCode_eq hn hdf lf nt hdk a]
    simp only [evalCode, thenC]
    cases h1 : evalCode P (cfD cf) df lf a ⟨t, nt, s⟩ with
    | none => rfl
    | some p =>
      obtain ⟨e, f⟩ := p
      cases e with
      | normal => rfl
      | exit i =>
        simp only [Option.bind]
        cases Nat.beq i id <;> rfl
      | ret => rfl
  | .loop a, t, s, K => by
    show loopK (compCode P cf dk lf nt a) lf t s K = _
    exact loopK_eq (fun f e f' => evalCode_nt hdf a f e f') (fun t s K => compCode_eq hn hdf lf nt hdk a t s K) lf t s K
  | .exit i, t, s, K => rfl
  | .ret, t, s, K => rfl
  | .rangeFunc .., t, s, K | .scope .., t, s, K | .label .., t, s, K | .goto .., t, s, K | .refuse .., t, s, K => rfl

theorem resOneK_eq (t : PT Value) (nt : Nat) (s : St) (r : ResultVar) (K : KV) : resOneK P t s r K = (resOne P ⟨t, nt, s⟩ r).elim none K := by
  cases r with
  | tmp i =>
    show getP i (K undef) K t = _
    rw [getPo_eq]
    cases h : t.get i <;> simp [resOne, ρof, h]
  | cell i ty =>
    show getG t i none _ = _
    rw [getG_eq]
    unfold resOne ρof
    cases h : t.get i with
    | none =>
      simp only [h]
      rfl
    | some v =>
      simp only [h, Option.elim, loadK_eq, thenK]
      cases eLoad P ty v s <;> rfl
theorem resListK_eq (t : PT Value) (nt : Nat) (s : St) : ∀ (l : List ResultVar) (K : List Value → A), resListK P t s l K = (resList P ⟨t, nt, s⟩ l).elim none K
  | [], K => rfl
  | r :: l, K => by
    show (resOneK P t s r fun v => resListK P t s l fun vs => K (v :: vs)) = _
    rw [resOneK_eq t nt]
    unfold resList
    cases resOne P ⟨t, nt, s⟩ r with
    | none => rfl
    | some v =>
      simp only [Option.elim, Option.bind]
      rw [resListK_eq t nt s l]
      cases resList P ⟨t, nt, s⟩ l <;> rfl
theorem resK_eq (fn : Func) (t : PT Value) (nt : Nat) (s : St) (K : KV) : resK P fn.results.toList t s K = (resultsE P fn ⟨t, nt, s⟩).elim none K := by
  unfold resK resultsE
  split
  · rename_i r h
    rw [h, resOneK_eq t nt]
    simp only [resList]
    cases resOne P ⟨t, nt, s⟩ r <;> rfl
  · rename_i l h
    rw [resListK_eq t nt]
    cases hl : resList P ⟨t, nt, s⟩ fn.results.toList with
    | none => rfl
    | some vs =>
      simp only [Option.elim, Option.bind]
      cases vs with
      | nil => rfl
      | cons v vs => cases vs with
        | nil =>
          exfalso
          have hlen : ∀ (l : List ResultVar) vs, resList P ⟨t, nt, s⟩ l = some vs → vs.length = l.length := by
            intro l
            induction l with
            | nil => intro vs h; cases h; rfl
            | cons r l ih =>
              intro vs h
              unfold resList at h
              cases h1 : resOne P ⟨t, nt, s⟩ r with
              | none => rw [h1] at h; cases h
              | some v =>
                rw [h1] at h
                simp only [Option.bind] at h
                cases h2 : resList P ⟨t, nt, s⟩ l with
                | none => rw [h2] at h; cases h
                | some ws => rw [h2] at h; cases h; simp [ih ws h2]
          have := hlen _ _ hl
          cases hh : fn.results.toList with
          | nil => rw [hh] at this; cases this
          | cons r l => cases l with
            | nil => exact h r hh
            | cons _ _ => rw [hh] at this; simp at this
        | cons w vs => rfl

/-- THE FAST ONE IS THE SLOW ONE. -/
theorem fnC_eq (X : ExtF) (dr : CallF → DrawF) (hdr : ∀ cf, KeepsNt (dr cf)) (dk : CF → Nat → Array Oper → RC) (hdk : ∀ cf nt, Nat' cf → DkOk nt (dk cf nt) (dr (cfD cf))) (lf : Nat) :
    ∀ (n : Nat), (cfD (fnC P X dk lf n) = callE P X dr lf n) ∧ Nat' (fnC P X dk lf n)
  | 0 => ⟨by funext f args s; rfl, fun f args s K => rfl⟩
  | n + 1 => by
    obtain ⟨ih, hn⟩ := fnC_eq X dr hdr dk hdk lf n
    have main : ∀ f args s (K : KS), (fnC P X dk lf (n + 1) f).go args s K = thenK (callE P X dr lf (n + 1) f args s) K := by
      intro f args s K
      show (match X f with
        | some g => FC.mk fun args s K => optK (g args s) none fun p => Prod.rec (motive := fun _ => A) (fun v s => K v s) p
        | none => match P.funcs[f]? with
          | some fn => match fn.body with
            | some c => Bool.rec (motive := fun _ => FC) (.mk fun args s K => iteB (Nat.ble args.length fn.ntmps)
                (setCellsK args .leaf 0 fun t => (compCode P (fnC P X dk lf n) (dk (fnC P X dk lf n) fn.ntmps) lf fn.ntmps c).go t s fun e t' s' =>
                  Ex.rec (motive := fun _ => A) (resK P fn.results.toList t' s' fun v => K v s') (fun _ => none) (resK P fn.results.toList t' s' fun v => K v s') e) none)
                (.mk fun _ _ _ => none) (fn.name == "runtime.NumGoroutine")
            | none => .mk fun _ _ _ => none
          | none => .mk fun _ _ _ => none).go args s K = _
      simp only [callE]
      cases X f with
      | some g =>
        show optK (g args s) none _ = _
        rw [optK_eq]
        simp only [thenK]
        cases g args s <;> rfl
      | none =>
        simp only []
        cases P.funcs[f]? with
        | none => rfl
        | some fn =>
          simp only [Option.bind]
          cases fn.body with
          | none => rfl
          | some c =>
            simp only []
            cases hname : (fn.name == "runtime.NumGoroutine") with
            | true => rfl
            | false =>
              show iteB (Nat.ble args.length fn.ntmps) _ none = _
              simp only [ck, Bool.not_false, Bool.true_and]
              cases Nat.ble args.length fn.ntmps with
              | false => rfl
              | true =>
                simp only [iteB_true, setCellsK_eq, cond_true]
                rw [compCode_eq hn (hdr _) lf fn.ntmps (hdk _ _ hn), ih]
                simp only [thenC, thenK]
                cases h1 : evalCode P (callE P X dr lf n) (dr (callE P X dr lf n)) lf c ⟨setCells .leaf 0 args, fn.ntmps, s⟩ with
                | none => rfl
                | some p =>
                  obtain ⟨e, ⟨t', nt', s'⟩⟩ := p
                  simp only [Option.bind]
                  cases e with
                  | exit i => rfl
                  | normal =>
                    show resK P fn.results.toList t' s' _ = _
                    rw [resK_eq fn t' nt' s']
                    cases resultsE P fn ⟨t', nt', s'⟩ <;> rfl
                  | ret =>
                    show resK P fn.results.toList t' s' _ = _
                    rw [resK_eq fn t' nt' s']
                    cases resultsE P fn ⟨t', nt', s'⟩ <;> rfl
    have e : cfD (fnC P X dk lf (n + 1)) = callE P X dr lf (n + 1) := by
      funext f args s
      show (fnC P X dk lf (n + 1) f).go args s (fun v s => some (v, s)) = _
      rw [main]
      simp only [thenK]
      cases callE P X dr lf (n + 1) f args s <;> rfl
    exact ⟨e, fun f args s K => by rw [main, e]⟩
end Go.AE.F
