import Derived.Test.YtgopjbnmbaeelaaGreatDoorAeFDraw
set_option linter.unusedVariables false
set_option linter.unusedSimpArgs false
namespace Go.AE.F
open Go Go.AE
variable {P : Program}

theorem recsOf_nt {cf : CallF} {s : St} {ops : Array Oper} : ∀ (l : List Oper) (rs : List Rec) (f : FS) (p : List Rec × FS), recsOf P cf s ops l rs f = some p → p.2.nt = f.nt
  | [], rs, f, p, h => by cases h; rfl
  | o :: l, rs, f, p, h => by
    unfold recsOf at h
    cases h1 : recOf P cf s ops rs rs.length o f.t with
    | none => rw [h1] at h; cases h
    | some r =>
      rw [h1] at h
      simp only [Option.bind] at h
      cases h2 : putT f o.dst r.v f.s with
      | none => rw [h2] at h; cases h
      | some g =>
        rw [h2] at h
        rw [recsOf_nt l _ g p h, putT_nt h2]
theorem drawE_nt (cf : CallF) : KeepsNt (drawE P cf) := by
  intro ops f f' h
  unfold drawE at h
  cases h1 : ck (dOk P ops) with
  | none => rw [h1] at h; cases h
  | some u =>
    rw [h1] at h
    simp only [Option.bind] at h
    cases h2 : recsOf P cf f.s ops ops.toList [] f with
    | none => rw [h2] at h; cases h
    | some p =>
      rw [h2] at h
      simp only at h
      cases h3 : ck (rdOk P cf f.s ops p.1 (nLoud p.1) && mkOk f.s ops p.1 (nLoud p.1)) with
      | none => rw [h3] at h; cases h
      | some u =>
        rw [h3] at h
        cases h
        exact recsOf_nt _ _ _ _ h2

/-! what is kept of the records -/
def Lof (rs : List Rec) : LL := rs.filterMap fun r => if r.lw then some (r.i, r.h, r.hm) else none
def Mof (rs : List Rec) : ML := rs.filterMap fun r => r.b.map fun b => (r.i, b)
def rdOf (r : Rec) : Rd := ⟨r.o, r.i, r.j, r.v, r.t⟩
def Rof (rs : List Rec) : List Rd := rs.filterMap fun r => if r.w && r.rd && !r.ld then some (rdOf r) else none
/-- The loud ones are numbered as they stand. -/
def Num (rs : List Rec) : Prop := ∀ (k : Nat) (r : Rec), (rs.filter (·.lw))[k]? = some r → r.j = k

theorem Lof_filter (rs : List Rec) : Lof rs = (rs.filter (·.lw)).map fun r => (r.i, r.h, r.hm) := by
  unfold Lof
  induction rs with
  | nil => rfl
  | cons r rs ih => cases h : r.lw <;> simp [List.filterMap_cons, List.filter_cons, h, ih]
theorem Lof_length (rs : List Rec) : (Lof rs).length = nLoud rs := by rw [Lof_filter]; simp [nLoud]

theorem anyL_eq (p : Nat → Bool) : ∀ (L : LL), anyL p L = L.any fun c => p c.1
  | [] => rfl
  | c :: L => by
    show Bool.rec (motive := fun _ => Bool) (anyL p L) true (p c.1) = _
    rw [anyL_eq p L]
    cases h : p c.1 <;> simp [h]
theorem andB_eq (a b : Bool) : andB a b = (a && b) := by cases a <;> rfl
theorem notB_eq (a : Bool) : notB a = !a := by cases a <;> rfl
theorem allB_eq {α : Type} (p : α → Bool) : ∀ (l : List α), allB p l = l.all p
  | [] => rfl
  | x :: l => by
    show Bool.rec (motive := fun _ => Bool) false (allB p l) (p x) = _
    rw [allB_eq p l, List.all_cons]
    cases p x <;> rfl
theorem allTo_eq (p : Nat → Bool) : ∀ (j : Nat), allTo p j = (List.range (j + 1)).all p
  | 0 => by show p 0 = _; simp [List.range_succ]
  | j + 1 => by
    show andB (allTo p j) (p (j + 1)) = _
    rw [allTo_eq p j, andB_eq, List.range_succ (n := j + 1), List.all_append]
    simp
theorem viewM_eq (s : St) (put : Nat → Bool) (K : PT Blk → A) : ∀ (rs : List Rec) (ins mask : Nat → Bool) (h : PT Blk), (∀ i, put i = (mask i && !ins i)) → viewM s put (Mof rs) h K = K (viewF s ins mask rs h)
  | [], ins, mask, h, hp => rfl
  | r :: rs, ins, mask, h, hp => by
    have ih := fun h => viewM_eq s put K rs ins mask h hp
    unfold viewF
    cases hb : r.b with
    | none =>
      have e : Mof (r :: rs) = Mof rs := by simp [Mof, List.filterMap_cons, hb]
      rw [e]; exact ih h
    | some b =>
      have e : Mof (r :: rs) = (r.i, b) :: Mof rs := by simp [Mof, List.filterMap_cons, hb]
      rw [e]
      show iteB (put r.i) (natK (2 * (s.nx + s.st * r.i)) fun id => setK (some b) h id fun h' => viewM s put (Mof rs) h' K) (viewM s put (Mof rs) h K) = _
      rw [natK_eq, setK_eq, ih, ih, iteB_eq, hp]
      cases mask r.i && !ins r.i <;> rfl
end Go.AE.F
