import Derived.Test.YtkbclhkcceennaaDoorAeN
import Derived.Test.YtkbclhkcceennaaDoorAeDrawD
set_option linter.unusedVariables false
set_option linter.unusedSimpArgs false
/-! A region that draws its order, told by what each of its operations finds and leaves. -/
namespace Go.AE
open Go Go.RowKit
variable {P : Program}

/-- One operation, wherever it stands. -/
theorem one_sound {nt : Nat} {ops : Array Oper} {o : Oper} {i : Nat} (hi : ops[i]? = some o) (hop : opOk nt o = true) {Q : PT Value → St → Prop} {t : PT Value} {s : St} (h : wpL P ops Q [o] t s)
    {ds : List Deferred} {w0 : KW} {m : Map} {a : Act} {w : World} {R : Exit → Act → World → Prop} {K : Act → World → Prop} (hR : FRel ds w0 m ⟨t, nt, s⟩ a w)
    (hk : ∀ m' t' s' a' w', m.le m' → FRel ds w0 m' ⟨t', nt, s'⟩ a' w' → Q t' s' → K a' w') : Go.wpOp P ops R i K a w := by
  simp only [opOk, Bool.and_eq_true] at hop
  obtain ⟨h1, h2⟩ := hop
  have hwe : Region.wanted o (yieldedE ops t) = Region.wanted o (yielded ops a.tmps) := by rw [yielded_eq (f := ⟨t, nt, s⟩) hR]
  unfold Go.wpOp
  simp only [hi]
  unfold wpL at h
  rw [hwe] at h
  split at h
  · rename_i hw
    rw [if_pos hw]
    refine .inl ?_
    cases hct : callTarget o.op with
    | some fa =>
      rw [hct] at h
      simp only at h
      obtain ⟨g, args⟩ := fa
      unfold fnP' at h
      split at h
      · rename_i f a0 b0 hfn
        obtain ⟨⟨fn, e1, e2, e3⟩, hc⟩ := h
        have hop : ∃ argTypes, o.op = .call { callee := .value g, args, argTypes } := by
          unfold callTarget at hct
          split at hct
          · rename_i f' args' aty heq
            simp only [Option.some.injEq, Prod.mk.injEq] at hct
            obtain ⟨rfl, rfl⟩ := hct
            exact ⟨_, heq⟩
          · cases hct
        obtain ⟨aty, hop⟩ := hop
        have hρ : ∀ x ∈ o.op.operands, VR m (ρof t x) (a.eval x) := fun x hx => hR.eval x (by
          have := List.all_eq_true.1 h1 x (Array.mem_toList_iff.2 hx); exact this)
        have hg := hρ g (by rw [hop]; simp [Op.operands, Call.operands])
        simp only at hfn
        rw [hfn] at hg
        have hargs : ∀ x ∈ args.toList, VR m (ρof t x) (a.eval x) := fun x hx => hρ x (by rw [hop]; simp [Op.operands, Call.operands]; exact .inr (by simpa using hx))
        cases hge : a.eval g <;> rw [hge] at hg <;> try (cases hg; done)
        rename_i fn' first' captured'
        cases hg with
        | func _ _ _ _ _ hsz1 hsz2 hv1 hv2 =>
          have hrun : (execOp a.eval o).run P w = .ok (.enter f (first' ++ args.map a.eval ++ captured')) w := by
            simp only [execOp, hop, resolve, hge, Deferred.ofValue, Sem.run_bind, Sem.run_pure, Result.andThen_ok, invoke]
            exact run_callFunc e1 e2 e3 _
          have := hc w0 m w (first' ++ args.map a.eval ++ captured') hR.rel hR.glob (by
            simp only [Array.toList_append, Array.toList_map]
            exact ((VRs.of_arr hsz1 hv1).append (VRs.map _ hargs)).append (VRs.of_arr hsz2 hv2))
          unfold Oper.wp
          rw [hrun, Oper.upon_enter]
          refine this.mono ?_
          rintro e w' ⟨m', v, v', s', rfl, k1, k2, k3, k4⟩
          exact hk m' _ s' _ w' k1 (hR.put (putT_of h2) k1 k2 k3) k4
      · exact h.elim
    | none =>
      rw [hct] at h
      simp only at h
      unfold bindP at h
      split at h
      case h_2 => exact h.elim
      rename_i p h3
      obtain ⟨v, s'⟩ := p
      have h4 := h
      simp only at h4
      exact evalAny_wp (cf := fun _ _ _ => none) (fun f args s v s' h => by cases h) (evalAny_ev hct h1 h3) hR fun m' v' w' k1 k2 k3 =>
        hk m' _ s' _ w' k1 (hR.put (putT_of h2) k1 k2 k3) h4
  · rename_i hw
    rw [if_neg (by rw [hw]; simp)]
    exact hk m _ s _ w (Map.le_refl m) (hR.put (putT_of h2) (Map.le_refl m) (undef_VR m) hR.rel) h

theorem draw_go {nt : Nat} {ops : Array Oper} (hd : DOk P ops) (hops : ops.toList.all (opOk nt) = true) (I : (Nat → Bool) → PT Value → St → Prop)
    (step : ∀ L t s i o, I L t s → ops[i]? = some o → L i = false → (∀ f, anc ops i f = true → L f = true) → wpL P ops (fun t' s' => I (fun k => L k || Nat.beq k i) t' s') [o] t s)
    {ds : List Deferred} {w0 : KW} {R : Exit → Act → World → Prop} :
    ∀ (fuel : Nat) (listed : Array Bool) (t : PT Value) (s : St) (m : Map) (a : Act) (w : World), listed.size = ops.size → (∀ i f, listed.getD i false = true → anc ops i f = true → listed.getD f false = true) →
      FRel ds w0 m ⟨t, nt, s⟩ a w → I (fun k => listed.getD k false) t s → todoN ops listed = fuel →
      (∀ L t' s' m' a' w', m.le m' → FRel ds w0 m' ⟨t', nt, s'⟩ a' w' → I L t' s' → (∀ i, i < ops.size → L i = true) → R .normal a' w') → wpAny P .any ops R fuel listed a w
  | 0, listed, t, s, m, a, w, hsz, hcl, hR, hI, hf, hQ => by
    have hall : ∀ i, i < ops.size → listed.getD i false = true := fun i hi => by
      cases hl : listed.getD i false with
      | true => rfl
      | false =>
        exfalso
        have : i ∈ (List.range ops.size).filter fun i => !listed.getD i false := by rw [List.mem_filter]; exact ⟨by simpa using hi, by rw [hl]; rfl⟩
        rw [List.length_eq_zero_iff.1 hf] at this; cases this
    refine ⟨?_, hQ _ t s m a w (Map.le_refl m) hR hI hall⟩
    rw [List.eq_nil_iff_forall_not_mem]
    intro i hi
    obtain ⟨h1, o, ho, _⟩ := mem_ready.1 hi
    have hi2 : i < ops.size := by
      rcases Nat.lt_or_ge i ops.size with h' | h'
      · exact h'
      · rw [Array.getElem?_eq_none h'] at ho; cases ho
    have := hall i hi2
    have hls : i < listed.size := by rw [hsz]; exact hi2
    simp [Array.getD, hls] at h1 this
    rw [h1] at this; cases this
  | fuel + 1, listed, t, s, m, a, w, hsz, hcl, hR, hI, hf, hQ => by
    refine ⟨fun h0 => hQ _ t s m a w (Map.le_refl m) hR hI (ready_of hd hsz h0), fun i hi => ?_⟩
    obtain ⟨hnt, o, ho, hall⟩ := mem_ready.1 hi
    have hi2 : i < ops.size := by
      rcases Nat.lt_or_ge i ops.size with h' | h'
      · exact h'
      · rw [Array.getElem?_eq_none h'] at ho; cases ho
    have hls : i < listed.size := by rw [hsz]; exact hi2
    have hn : listed.getD i false = false := by
      simp [Array.getD, hls] at hnt ⊢; exact hnt
    have hanc : ∀ f, anc ops i f = true → listed.getD f false = true := fun f hf => by
      obtain ⟨e, he, hb, hx⟩ := (anc_spec ho (hd.back _ _ ho) f).1 hf
      have hl := hall e he hb
      rcases hx with rfl | hx
      · exact hl
      · exact hcl _ _ hl hx
    have hLset : (fun k => listed.getD k false || Nat.beq k i) = fun k => (listed.setIfInBounds i true).getD k false := by
      funext k
      by_cases e : k = i
      · subst e; rw [getD_set_self hls]; simp
      · rw [getD_set_ne false (fun x => e x.symm)]
        have hb : Nat.beq k i = false := by
          cases hb : Nat.beq k i with
          | false => rfl
          | true => exact absurd (Nat.eq_of_beq_eq_true hb) e
        show (listed.getD k false || Nat.beq k i) = listed.getD k false
        rw [hb, Bool.or_false]
    refine one_sound ho (List.all_eq_true.1 hops o (Array.mem_toList_iff.2 (Array.mem_of_getElem? ho))) (step _ t s i o hI ho hn hanc) hR fun m' t' s' a' w' k1 k2 k3 => ?_
    rw [hLset] at k3
    refine draw_go hd hops I step fuel _ t' s' m' a' w' (by simp [hsz]) ?_ k2 k3 ?_ fun L t'' s'' m'' a'' w'' q1 q2 q3 q4 => hQ L t'' s'' m'' a'' w'' (k1.trans q1) q2 q3 q4
    · intro j f hj hf
      by_cases ej : j = i
      · subst ej
        have hfi := hanc f hf
        by_cases ef : f = j
        · subst ef; exact getD_set_self hls _
        · rw [getD_set_ne false (fun x => ef x.symm)]; exact hfi
      · rw [getD_set_ne false (fun x => ej x.symm)] at hj
        have := hcl j f hj hf
        by_cases ef : f = i
        · subst ef; exact getD_set_self hls _
        · rw [getD_set_ne false (fun x => ef x.symm)]; exact this
    · have := filter_len (p := fun i => !listed.getD i false) (q := fun k => !(listed.setIfInBounds i true).getD k false) (i := i) (by rw [hn]; rfl) (by rw [getD_set_self hls]; rfl) (fun k hk => by rw [getD_set_ne false (fun e => hk e.symm)]) ops.size hi2
      unfold todoN at hf ⊢
      omega

theorem drawT {nt id : Nat} {ops : Array Oper} {Q : Ex → PT Value → St → Prop} {t : PT Value} {s : St} (hm : P.follows .mixedOrders = true) (hd : dOk P ops = true) (hops : ops.toList.all (opOk nt) = true) (I : (Nat → Bool) → PT Value → St → Prop)
    (h0 : I (fun _ => false) t s)
    (step : ∀ L t s i o, I L t s → ops[i]? = some o → L i = false → (∀ f, anc ops i f = true → L f = true) → wpL P ops (fun t' s' => I (fun k => L k || Nat.beq k i) t' s') [o] t s)
    (hQ : ∀ L t s, I L t s → (∀ i, i < ops.size → L i = true) → Q .normal t s) : CodeT P nt (.region id ops true) Q t s := by
  intro ds w0 m a w R hR hk
  refine wp_region_any hm ?_
  have hR' : FRel ds w0 m ⟨t, nt, s⟩ a { w with drawn := w.drawn + 1 } := ⟨hR.rel.drew, hR.glob, hR.tmps, hR.size, hR.defers⟩
  have hall : todoN ops (Array.replicate ops.size false) = ops.size := by
    unfold todoN
    rw [List.filter_eq_self.2 ?_, List.length_range]
    intro k hk
    simp [Array.getD, List.mem_range.1 hk]
  have hL : (fun k => (Array.replicate ops.size false).getD k false) = fun _ => false := by
    funext k; simp [Array.getD]
  refine draw_go (dOk_spec hd) hops I step ops.size _ t s m a _ (by simp) (fun i f hi => by simp [Array.getD] at hi) hR' (by rw [hL]; exact h0) hall ?_
  intro L t' s' m' a' w' k1 k2 k3 k4
  exact hk .normal m' t' s' a' w' k1 k2 (hQ L t' s' k3 k4)

/-! By facts: what each operation's slot holds, once it has come up, whatever comes up behind it. -/
def dstAt (ops : Array Oper) (f : Nat) (d : Tmp) : Bool := match ops[f]? with
  | some o => o.dst == some d
  | none => false
def noDst (ops : Array Oper) (d : Tmp) : Bool := ops.toList.all fun o => !(o.dst == some d)
/-- What an operation may lean on: what its forebears left, and the slots that the region leaves alone. -/
structure Seen (ops : Array Oper) (Rl : St → St → Prop) (F : Nat → Value → St → Prop) (t0 : PT Value) (s0 : St) (L : Nat → Bool) (t : PT Value) (s : St) : Prop where
  grew : Rl s0 s
  fact : ∀ f d, L f = true → dstAt ops f d = true → F f (slotV t d) s
  old : ∀ d, noDst ops d = true → slotV t d = slotV t0 d
def stepsT (P : Program) (ops : Array Oper) (Rl : St → St → Prop) (F : Nat → Value → St → Prop) (t0 : PT Value) (s0 : St) : Nat → List Oper → Prop
  | _, [] => True
  | k, o :: l => (∀ t s, Seen ops Rl F t0 s0 (anc ops k) t s → wpL P ops (fun t' s' => ∃ v, t' = setD t o.dst v ∧ Rl s s' ∧ F k v s') [o] t s) ∧ stepsT P ops Rl F t0 s0 (k + 1) l
theorem stepsT_at {ops : Array Oper} {Rl : St → St → Prop} {F : Nat → Value → St → Prop} {t0 : PT Value} {s0 : St} : ∀ (l : List Oper) (k : Nat), stepsT P ops Rl F t0 s0 k l → ∀ i o, l[i]? = some o → ∀ t s, Seen ops Rl F t0 s0 (anc ops (k + i)) t s → wpL P ops (fun t' s' => ∃ v, t' = setD t o.dst v ∧ Rl s s' ∧ F (k + i) v s') [o] t s
  | [], k, h, i, o, ho => by simp at ho
  | o' :: l, k, h, 0, o, ho => by
    simp only [List.getElem?_cons_zero, Option.some.injEq] at ho
    subst ho; exact h.1
  | o' :: l, k, h, i + 1, o, ho => by
    have := stepsT_at l (k + 1) h.2 i o (by simpa using ho)
    rw [show k + 1 + i = k + (i + 1) from by omega] at this
    exact this
theorem wpL_one_mono {ops : Array Oper} {o : Oper} {Q Q' : PT Value → St → Prop} {t : PT Value} {s : St} (h : ∀ t s, Q t s → Q' t s) (hw : wpL P ops Q [o] t s) : wpL P ops Q' [o] t s := by
  unfold wpL at hw ⊢
  split at hw
  · split at hw
    · unfold fnP' at hw ⊢
      split at hw
      · exact hw.mono fun v s' hv => h _ _ hv
      · exact hw
    · unfold bindP at hw ⊢
      split at hw
      · exact h _ _ hw
      · exact hw
  · exact h _ _ hw
theorem slotV_setD (t : PT Value) (d : Option Tmp) (v : Value) (j : Nat) : slotV (setD t d v) j = if d = some j then v else slotV t j := by
  cases d with
  | none => simp [setD]
  | some k => rw [setD_some, slotV_set]; by_cases e : j = k <;> simp [e, eq_comm]

theorem drawF {nt id : Nat} {ops : Array Oper} {Q : Ex → PT Value → St → Prop} {t : PT Value} {s : St} (hm : P.follows .mixedOrders = true) (hd : dOk P ops = true) (hops : ops.toList.all (opOk nt) = true) (Rl : St → St → Prop) (F : Nat → Value → St → Prop)
    (h0 : Rl s s) (htr : ∀ a b c, Rl a b → Rl b c → Rl a c) (hst : ∀ k v a b, Rl s a → F k v a → Rl a b → F k v b) (steps : stepsT P ops Rl F t s 0 ops.toList)
    (hQ : ∀ t' s', Seen ops Rl F t s (fun _ => true) t' s' → Q .normal t' s') : CodeT P nt (.region id ops true) Q t s := by
  have hD := dOk_spec hd
  refine drawT hm hd hops (fun L t' s' => Seen ops Rl F t s L t' s') ⟨h0, fun f d h => by simp at h, fun d _ => rfl⟩ ?_ ?_
  · intro L t' s' i o hI ho hn hanc
    have hw := stepsT_at ops.toList 0 steps i o (by simpa using ho) t' s' ⟨hI.grew, fun f d hf hdd => hI.fact f d (hanc f (by simpa using hf)) hdd, hI.old⟩
    rw [Nat.zero_add] at hw
    refine wpL_one_mono ?_ hw
    rintro t2 s2 ⟨v, rfl, hr, hF⟩
    refine ⟨htr _ _ _ hI.grew hr, fun f d hf hdd => ?_, fun d hdn => ?_⟩
    · rw [slotV_setD]
      by_cases e : o.dst = some d
      · rw [if_pos e]
        have : f = i := by
          unfold dstAt at hdd
          split at hdd
          · rename_i of hof
            exact (hD.dst f i of o d hof ho (by simpa using hdd) e)
          · cases hdd
        subst this; exact hF
      · rw [if_neg e]
        have hf' : L f = true := by
          simp only [Bool.or_eq_true] at hf
          rcases hf with hf | hf
          · exact hf
          · have : f = i := Nat.eq_of_beq_eq_true hf
            subst this
            unfold dstAt at hdd
            rw [ho] at hdd
            exact absurd (by simpa using hdd) e
        exact hst _ _ _ _ hI.grew (hI.fact f d hf' hdd) hr
    · rw [slotV_setD]
      have : o.dst ≠ some d := fun e => by
        have := List.all_eq_true.1 hdn o (Array.mem_toList_iff.2 (Array.mem_of_getElem? ho))
        simp [e] at this
      rw [if_neg this]; exact hI.old d hdn
  · intro L t' s' hI hall
    refine hQ t' s' ⟨hI.grew, fun f d _ hdd => ?_, hI.old⟩
    refine hI.fact f d (hall f ?_) hdd
    unfold dstAt at hdd
    split at hdd
    · rename_i of hof
      rcases Nat.lt_or_ge f ops.size with h' | h'
      · exact h'
      · rw [Array.getElem?_eq_none h'] at hof; cases hof
    · cases hdd

def factAt (Fs : List (Value → St → Prop)) (k : Nat) (v : Value) (s : St) : Prop := (Fs.getD k fun _ _ => True) v s
theorem drawG {nt id : Nat} {ops : Array Oper} {Q : Ex → PT Value → St → Prop} {t : PT Value} {s : St} (Fs : List (Value → St → Prop)) (hm : P.follows .mixedOrders = true) (hd : dOk P ops = true) (hops : ops.toList.all (opOk nt) = true)
    (h0 : Wf s) (hst : ∀ p ∈ Fs, ∀ v a b, p v a → Grows a b → p v b) (steps : stepsT P ops Grows (factAt Fs) t s 0 ops.toList)
    (hQ : ∀ t' s', Seen ops Grows (factAt Fs) t s (fun _ => true) t' s' → Q .normal t' s') : CodeT P nt (.region id ops true) Q t s := by
  refine drawF hm hd hops Grows (factAt Fs) (Grows.refl h0) (fun a b c h k => h.trans k) ?_ steps hQ
  intro k v a b _ hF hg
  unfold factAt at hF ⊢
  rw [List.getD_eq_getElem?_getD] at hF ⊢
  cases hk : Fs[k]? with
  | none => exact trivial
  | some p =>
    rw [hk] at hF
    exact hst p (List.mem_of_getElem? hk) v a b hF hg
end Go.AE
