import Derived.Test.YtkbclhkcceennaaDoorAeW
import Derived.Test.YtkbclhkcceennaaDoorAeS
set_option linter.unusedVariables false
set_option linter.unusedSimpArgs false
/-! A region that draws its order, by facts, where some rows are made by one operation and used up by another. -/
namespace Go.AE
open Go Go.RowKit
variable {P : Program}

/-- The pairs (p, u): p makes a row, u uses it up. -/
abbrev Pairs := List (Nat × Nat)
def isP (tmp : Pairs) (k : Nat) : Bool := tmp.any fun x => Nat.beq x.1 k
def preOf (tmp : Pairs) (k : Nat) : Option Nat := (tmp.find? fun x => Nat.beq x.2 k).map (·.1)
def mid (ops : Array Oper) (tmp : Pairs) (g : Nat) : Bool := tmp.any fun x => !Nat.beq g x.2 && !anc ops x.1 g && !anc ops g x.2
def sepOk (ops : Array Oper) (tmp : Pairs) : Bool := tmp.all fun x => anc ops x.2 x.1 && !isP tmp x.2 && tmp.all fun y => Nat.beq x.1 y.1 && Nat.beq x.2 y.2 || anc ops x.1 y.2 || anc ops y.1 x.2
/-- What an operation may lean on. -/
structure SeenU (ops : Array Oper) (G : Nat → Value → St → Prop) (t0 : PT Value) (s0 : St) (L : Nat → Bool) (t : PT Value) (s : St) : Prop where
  grew : Grows s0 s
  fact : ∀ f d, L f = true → dstAt ops f d = true → G f (slotV t d) s
  old : ∀ d, noDst ops d = true → slotV t d = slotV t0 d
def stepU (P : Program) (ops : Array Oper) (tmp : Pairs) (G : Nat → Value → St → Prop) (T : Nat → Value → St → St → Prop) (t0 : PT Value) (s0 : St) (k : Nat) (o : Oper) : Prop :=
  match isP tmp k, preOf tmp k with
  | true, _ => ∀ t s, SeenU ops G t0 s0 (anc ops k) t s → wpL P ops (fun t' s' => ∃ v, t' = setD t o.dst v ∧ Grows s s' ∧ G k v s' ∧ T k v s s') [o] t s
  | false, some p => ∀ t s sb, SeenU ops G t0 s0 (anc ops k) t s → SeenU ops G t0 s0 (anc ops k) t sb → Grows sb s → (∀ d, dstAt ops p d = true → T p (slotV t d) sb s) → wpL P ops (fun t' s' => ∃ v, t' = setD t o.dst v ∧ Grows sb s' ∧ G k v s') [o] t s
  | false, none => ∀ t s, SeenU ops G t0 s0 (anc ops k) t s → wpL P ops (fun t' s' => ∃ v, t' = setD t o.dst v ∧ Grows s s' ∧ G k v s') [o] t s
def stepsU (P : Program) (ops : Array Oper) (tmp : Pairs) (G : Nat → Value → St → Prop) (T : Nat → Value → St → St → Prop) (t0 : PT Value) (s0 : St) : Nat → List Oper → Prop
  | _, [] => True
  | k, o :: l => stepU P ops tmp G T t0 s0 k o ∧ stepsU P ops tmp G T t0 s0 (k + 1) l
theorem stepsU_at {ops : Array Oper} {tmp : Pairs} {G : Nat → Value → St → Prop} {T : Nat → Value → St → St → Prop} {t0 : PT Value} {s0 : St} : ∀ (l : List Oper) (k : Nat), stepsU P ops tmp G T t0 s0 k l → ∀ i o, l[i]? = some o → stepU P ops tmp G T t0 s0 (k + i) o
  | [], k, h, i, o, ho => by simp at ho
  | o' :: l, k, h, 0, o, ho => by
    simp only [List.getElem?_cons_zero, Option.some.injEq] at ho
    subst ho; exact h.1
  | o' :: l, k, h, i + 1, o, ho => by
    have := stepsU_at l (k + 1) h.2 i o (by simpa using ho)
    rw [show k + 1 + i = k + (i + 1) from by omega] at this
    exact this
/-- What holds between two operations. -/
structure InvU (ops : Array Oper) (tmp : Pairs) (G : Nat → Value → St → Prop) (T : Nat → Value → St → St → Prop) (t0 : PT Value) (s0 : St) (L : Nat → Bool) (t : PT Value) (s sb : St) : Prop where
  closed : ∀ i f, L i = true → anc ops i f = true → L f = true
  low : Grows s0 sb
  up : Grows sb s
  fact : ∀ f d, L f = true → dstAt ops f d = true → G f (slotV t d) s
  old : ∀ d, noDst ops d = true → slotV t d = slotV t0 d
  live : ∀ p u, (p, u) ∈ tmp → L p = true → L u = false → (∀ d, dstAt ops p d = true → T p (slotV t d) sb s) ∧ ∀ f d, L f = true → dstAt ops f d = true → G f (slotV t d) sb
theorem dst_one {ops : Array Oper} (hD : DOk P ops) {i f : Nat} {o : Oper} (ho : ops[i]? = some o) {d : Tmp} (hd : dstAt ops f d = true) (e : o.dst = some d) : f = i := by
  unfold dstAt at hd
  split at hd
  · rename_i of hof
    exact hD.dst f i of o d hof ho (by simpa using hd) e
  · cases hd
theorem dst_self {ops : Array Oper} {i : Nat} {o : Oper} (ho : ops[i]? = some o) {d : Tmp} (hd : dstAt ops i d = true) : o.dst = some d := by
  unfold dstAt at hd
  rw [ho] at hd
  simpa using hd
theorem beq_true {a b : Nat} (h : Nat.beq a b = true) : a = b := Nat.eq_of_beq_eq_true h

theorem drawU {nt id : Nat} {ops : Array Oper} {Q : Ex → PT Value → St → Prop} {t : PT Value} {s : St} (tmp : Pairs) (G : Nat → Value → St → Prop) (T : Nat → Value → St → St → Prop) (hm : P.follows .mixedOrders = true) (hd : dOk P ops = true) (hops : ops.toList.all (opOk nt) = true) (hsep : sepOk ops tmp = true)
    (h0 : Wf s) (hG : ∀ k v a b, G k v a → Grows a b → G k v b) (hT : ∀ k v sb a b, T k v sb a → Grows a b → T k v sb b) (hmid : ∀ k v a b, mid ops tmp k = true → G k v a → G k v b)
    (steps : stepsU P ops tmp G T t s 0 ops.toList)
    (hQ : ∀ t' s', SeenU ops G t s (fun _ => true) t' s' → Q .normal t' s') : CodeT P nt (.region id ops true) Q t s := by
  have hD := dOk_spec hd
  refine drawT hm hd hops (fun L t' s' => ∃ sb, InvU ops tmp G T t s L t' s' sb) ⟨s, (fun i f h => by simp at h), Grows.refl h0, Grows.refl h0, (fun f d h => by simp at h), (fun d _ => rfl), (fun p u _ h => by simp at h)⟩ ?_ ?_
  · rintro L t1 s1 i o ⟨sb, hI⟩ ho hn hanc
    have hstep := stepsU_at ops.toList 0 steps i o (by simpa using ho)
    rw [Nat.zero_add] at hstep
    have hseen : SeenU ops G t s (anc ops i) t1 s1 := ⟨hI.low.trans hI.up, fun f d hf hdd => hI.fact f d (hanc f hf) hdd, hI.old⟩
    have hcl : ∀ j f, (L j || Nat.beq j i) = true → anc ops j f = true → (L f || Nat.beq f i) = true := by
      intro j f hj hf
      simp only [Bool.or_eq_true] at hj ⊢
      rcases hj with hj | hj
      · exact .inl (hI.closed j f hj hf)
      · rw [beq_true hj] at hf; exact .inl (hanc f hf)
    have hsplit : ∀ f, (L f || Nat.beq f i) = true → L f = true ∨ f = i := by
      intro f hf
      simp only [Bool.or_eq_true] at hf
      rcases hf with hf | hf
      · exact .inl hf
      · exact .inr (beq_true hf)
    have hslot : ∀ (v : Value) f d, L f = true → dstAt ops f d = true → slotV (setD t1 o.dst v) d = slotV t1 d := by
      intro v f d hf hdd
      rw [slotV_setD, if_neg]
      intro e
      have := dst_one hD ho hdd e
      subst this; rw [hn] at hf; cases hf
    have hself : ∀ (v : Value) d, dstAt ops i d = true → slotV (setD t1 o.dst v) d = v := by
      intro v d hdd
      rw [slotV_setD, if_pos (dst_self ho hdd)]
    have hold : ∀ (v : Value) d, noDst ops d = true → slotV (setD t1 o.dst v) d = slotV t d := by
      intro v d hdn
      rw [slotV_setD, if_neg]
      · exact hI.old d hdn
      · intro e
        have := List.all_eq_true.1 hdn o (Array.mem_toList_iff.2 (Array.mem_of_getElem? ho))
        simp [e] at this
    have hall := List.all_eq_true.1 hsep
    -- two rows are never alive at one time
    have honly : ∀ p u p' u', (p, u) ∈ tmp → (p', u') ∈ tmp → L p = true → L u = false → (L p' = true ∨ p' = i) → L u' = false → u' ≠ i → (p' = i → u ≠ i) → p = p' ∧ u = u' := by
      intro p u p' u' h1 h2 a1 a2 a3 a4 a5 a6
      have := hall _ h1
      simp only [Bool.and_eq_true, Bool.not_eq_true'] at this
      have := List.all_eq_true.1 this.2 _ h2
      simp only [Bool.or_eq_true, Bool.and_eq_true] at this
      rcases this with (⟨e1, e2⟩ | h) | h
      · exact ⟨beq_true e1, beq_true e2⟩
      · have := hI.closed p u' a1 h; rw [a4] at this; cases this
      · rcases a3 with a3 | rfl
        · have := hI.closed p' u a3 h; rw [a2] at this; cases this
        · have := hanc u h; rw [a2] at this; cases this
    unfold stepU at hstep
    cases hp : isP tmp i with
    | true =>
      rw [hp] at hstep
      refine wpL_one_mono ?_ (hstep t1 s1 hseen)
      rintro t2 s2 ⟨v, rfl, k1, k2, k3⟩
      have hmi : mid ops tmp i = true := by
        unfold isP at hp
        obtain ⟨x, hx, hxe⟩ := List.any_eq_true.1 hp
        have hxi := beq_true hxe
        refine List.any_eq_true.2 ⟨x, hx, ?_⟩
        have hx2 := hall x hx
        simp only [Bool.and_eq_true, Bool.not_eq_true'] at hx2
        have h1 : Nat.beq i x.2 = false := by
          cases hb : Nat.beq i x.2 with
          | false => rfl
          | true =>
            exfalso
            have e := beq_true hb
            have := hx2.1.2
            rw [← e] at this
            unfold isP at this
            rw [hp] at this; cases this
        have hirr : ∀ j oj, ops[j]? = some oj → anc ops j j = false := fun j oj hj => by
          cases hb : anc ops j j with
          | false => rfl
          | true => have := hD.anc_lt j j oj hj hb; omega
        have h2 : anc ops x.1 i = false := by rw [hxi]; exact hirr i o ho
        have h3 : anc ops i x.2 = false := by
          cases hb : anc ops i x.2 with
          | false => rfl
          | true =>
            exfalso
            have h4 := hanc _ hb
            have := hI.closed _ _ h4 (show anc ops x.2 x.1 = true from hx2.1.1)
            rw [hxi, hn] at this; cases this
        simp [h1, h2, h3]
      refine ⟨s1, hcl, hI.low.trans hI.up, k1, ?_, fun d hdn => hold v d hdn, ?_⟩
      · intro f d hf hdd
        rcases hsplit f hf with hf | rfl
        · rw [hslot v f d hf hdd]; exact hG _ _ _ _ (hI.fact f d hf hdd) k1
        · rw [hself v d hdd]; exact k2
      · intro p u hpu hLp hLu
        simp only [Bool.or_eq_false_iff] at hLu
        refine ⟨fun d hdd => ?_, fun f d hf hdd => ?_⟩
        · rcases hsplit p hLp with hp' | rfl
          · exfalso
            obtain ⟨x, hx, hxe⟩ := List.any_eq_true.1 (show tmp.any (fun x => Nat.beq x.1 i) = true from hp)
            have hxi := beq_true hxe
            have hux : L x.2 = false := by
              cases hb : L x.2 with
              | false => rfl
              | true =>
                have hx2 := hall x hx
                simp only [Bool.and_eq_true, Bool.not_eq_true'] at hx2
                have := hI.closed _ _ hb (show anc ops x.2 x.1 = true from hx2.1.1)
                rw [hxi, hn] at this; cases this
            have hx2i : x.2 ≠ i := fun e => by
              have hx2 := hall x hx
              simp only [Bool.and_eq_true, Bool.not_eq_true'] at hx2
              have := hx2.1.2
              rw [e, hp] at this; cases this
            have hui : u ≠ i := fun e => by
              have := hLu.2
              rw [e] at this
              simp at this
            have := (honly p u x.1 x.2 hpu hx hp' hLu.1 (.inr hxi) hux hx2i (fun _ => hui)).1
            rw [this, hxi, hn] at hp'; cases hp'
          · rw [hself v d hdd]; exact k3
        · rcases hsplit f hf with hf | rfl
          · rw [hslot v f d hf hdd]; exact hI.fact f d hf hdd
          · rw [hself v d hdd]; exact hmid _ _ _ _ hmi k2
    | false =>
      rw [hp] at hstep
      cases hpre : preOf tmp i with
      | some p =>
        rw [hpre] at hstep
        obtain ⟨x, hx, hxp⟩ := Option.map_eq_some_iff.1 hpre
        have hxm := List.mem_of_find?_eq_some hx
        have hxi : x.2 = i := beq_true (by simpa using List.find?_some hx)
        obtain ⟨xp, xu⟩ := x
        simp only at hxp hxi
        subst hxp; subst hxi
        have hx2 := hall _ hxm
        simp only [Bool.and_eq_true, Bool.not_eq_true'] at hx2
        have hLp : L xp = true := hanc xp hx2.1.1
        obtain ⟨l1, l2⟩ := hI.live xp xu hxm hLp hn
        refine wpL_one_mono ?_ (hstep t1 s1 sb hseen ⟨hI.low, fun f d hf hdd => l2 f d (hanc f hf) hdd, hI.old⟩ hI.up l1)
        rintro t2 s2 ⟨v, rfl, k1, k2⟩
        refine ⟨s2, hcl, hI.low.trans k1, Grows.refl k1.wf, ?_, fun d hdn => hold v d hdn, ?_⟩
        · intro f d hf hdd
          rcases hsplit f hf with hf | rfl
          · rw [hslot v f d hf hdd]; exact hG _ _ _ _ (l2 f d hf hdd) k1
          · rw [hself v d hdd]; exact k2
        · intro p' u' hpu hLp' hLu'
          exfalso
          simp only [Bool.or_eq_false_iff] at hLu'
          have hui : u' ≠ xu := fun e => by have := hLu'.2; rw [e] at this; simp at this
          have hp'i : p' ≠ xu := fun e => by
            subst e
            have : isP tmp p' = true := List.any_eq_true.2 ⟨_, hpu, by simp⟩
            rw [this] at hp; cases hp
          have hLp'' : L p' = true := by rcases hsplit p' hLp' with h | h; exact h; exact absurd h hp'i
          exact hui (honly xp xu p' u' hxm hpu hLp hn (.inl hLp'') hLu'.1 hui (fun e => absurd e hp'i)).2.symm
      | none =>
        rw [hpre] at hstep
        refine wpL_one_mono ?_ (hstep t1 s1 hseen)
        rintro t2 s2 ⟨v, rfl, k1, k2⟩
        refine ⟨sb, hcl, hI.low, hI.up.trans k1, ?_, fun d hdn => hold v d hdn, ?_⟩
        · intro f d hf hdd
          rcases hsplit f hf with hf | rfl
          · rw [hslot v f d hf hdd]; exact hG _ _ _ _ (hI.fact f d hf hdd) k1
          · rw [hself v d hdd]; exact k2
        · intro p u hpu hLp hLu
          simp only [Bool.or_eq_false_iff] at hLu
          have hpi : p ≠ i := fun e => by
            subst e
            have : isP tmp p = true := List.any_eq_true.2 ⟨_, hpu, by simp⟩
            rw [this] at hp; cases hp
          have hLp' : L p = true := by rcases hsplit p hLp with h | h; exact h; exact absurd h hpi
          obtain ⟨l1, l2⟩ := hI.live p u hpu hLp' hLu.1
          refine ⟨fun d hdd => ?_, fun f d hf hdd => ?_⟩
          · rw [hslot v p d hLp' hdd]; exact hT _ _ _ _ _ (l1 d hdd) k1
          · rcases hsplit f hf with hf | rfl
            · rw [hslot v f d hf hdd]; exact l2 f d hf hdd
            · rw [hself v d hdd]
              refine hmid _ _ _ _ (List.any_eq_true.2 ⟨_, hpu, ?_⟩) k2
              have h1 : Nat.beq f u = false := by
                cases hb : Nat.beq f u with
                | false => rfl
                | true =>
                  have := hLu.2
                  rw [beq_true hb] at this; simp at this
              have h2 : anc ops p f = false := by
                cases hb : anc ops p f with
                | false => rfl
                | true => have := hI.closed p f hLp' hb; rw [hn] at this; cases this
              have h3 : anc ops f u = false := by
                cases hb : anc ops f u with
                | false => rfl
                | true => have := hanc u hb; rw [hLu.1] at this; cases this
              simp [h1, h2, h3]
  · rintro L t1 s1 ⟨sb, hI⟩ hall
    refine hQ t1 s1 ⟨hI.low.trans hI.up, fun f d _ hdd => hI.fact f d (hall f ?_) hdd, hI.old⟩
    unfold dstAt at hdd
    split at hdd
    · rename_i of hof
      rcases Nat.lt_or_ge f ops.size with h' | h'
      · exact h'
      · rw [Array.getElem?_eq_none h'] at hof; cases hof
    · cases hdd

def tempAt (Ts : List (Value → St → St → Prop)) (k : Nat) (v : Value) (sb s : St) : Prop := (Ts.getD k fun _ _ _ => True) v sb s
def midOk (ops : Array Oper) (tmp : Pairs) (sl : List Bool) : Bool := (List.range ops.size).all fun k => !mid ops tmp k || sl.getD k false
/-- The same, the facts in lists. 'sl': which of them hang on no state. -/
theorem drawV {nt id : Nat} {ops : Array Oper} {Q : Ex → PT Value → St → Prop} {t : PT Value} {s : St} (tmp : Pairs) (Gs : List (Value → St → Prop)) (sl : List Bool) (Ts : List (Value → St → St → Prop)) (hm : P.follows .mixedOrders = true) (hd : dOk P ops = true) (hops : ops.toList.all (opOk nt) = true) (hsep : sepOk ops tmp = true) (hmi : midOk ops tmp sl = true) (hlen : Gs.length = ops.size)
    (h0 : Wf s) (hG : ∀ p ∈ Gs, ∀ v a b, p v a → Grows a b → p v b) (hT : ∀ p ∈ Ts, ∀ v sb a b, p v sb a → Grows a b → p v sb b) (hS : ∀ x ∈ Gs.zip sl, x.2 = true → ∀ v a b, x.1 v a → x.1 v b)
    (steps : stepsU P ops tmp (factAt Gs) (tempAt Ts) t s 0 ops.toList)
    (hQ : ∀ t' s', SeenU ops (factAt Gs) t s (fun _ => true) t' s' → Q .normal t' s') : CodeT P nt (.region id ops true) Q t s := by
  refine drawU tmp (factAt Gs) (tempAt Ts) hm hd hops hsep h0 ?_ ?_ ?_ steps hQ
  · intro k v a b hF hg
    unfold factAt at hF ⊢
    rw [List.getD_eq_getElem?_getD] at hF ⊢
    cases hk : Gs[k]? with
    | none => exact trivial
    | some p =>
      rw [hk] at hF
      exact hG p (List.mem_of_getElem? hk) v a b hF hg
  · intro k v sb a b hF hg
    unfold tempAt at hF ⊢
    rw [List.getD_eq_getElem?_getD] at hF ⊢
    cases hk : Ts[k]? with
    | none => exact trivial
    | some p =>
      rw [hk] at hF
      exact hT p (List.mem_of_getElem? hk) v sb a b hF hg
  · intro k v a b hk1 hF
    unfold factAt at hF ⊢
    rw [List.getD_eq_getElem?_getD] at hF ⊢
    cases hk : Gs[k]? with
    | none => exact trivial
    | some p =>
      rw [hk] at hF
      have hks : k < ops.size := by
        rcases Nat.lt_or_ge k Gs.length with h' | h'
        · omega
        · rw [List.getElem?_eq_none h'] at hk; cases hk
      have := List.all_eq_true.1 hmi k (List.mem_range.2 hks)
      rw [hk1] at this
      have hsl : sl.getD k false = true := by simpa using this
      rw [List.getD_eq_getElem?_getD] at hsl
      cases hsk : sl[k]? with
      | none => rw [hsk] at hsl; cases hsl
      | some y =>
        rw [hsk] at hsl
        have hy : y = true := hsl
        subst hy
        refine hS (p, true) (List.mem_of_getElem? (i := k) ?_) rfl v a b hF
        rw [List.getElem?_zip_eq_some]
        exact ⟨hk, hsk⟩
theorem evConv_bytes {ty e st : TypeId} (hT : U8T P ty e) (hst : P.underlying st = some .string) {s : St} {v : Value} {l : List UInt8} (h : Bytes s v l) (ρ : Operand → Value) (o : Oper) : evConv P ρ o ty st v s = some (.string ⟨l.toArray⟩, s) := by
  have := conv_bytes hT hst h
  rcases h with ⟨rfl, rfl⟩ | ⟨a, c, rfl, _⟩ <;> exact this
theorem evBin_str_eql (ρ : Operand → Value) (o : Oper) (t : TypeId) (a b : ByteArray) (s : St) : evBin P ρ o .eql t (.string a) (.string b) s = some (.bool (a.data.toList == b.data.toList), s) := rfl
theorem evBin_str_same (ρ : Operand → Value) (o : Oper) (t : TypeId) (a : ByteArray) (s : St) : evBin P ρ o .eql t (.string a) (.string a) s = some (.bool true, s) := by
  rw [evBin_str_eql, beq_self_eq_true]
end Go.AE
