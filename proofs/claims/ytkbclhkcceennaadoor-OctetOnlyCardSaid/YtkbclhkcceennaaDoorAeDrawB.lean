import Derived.Test.YtkbclhkcceennaaDoorAeDrawA
set_option linter.unusedSimpArgs false
set_option linter.unusedVariables false
namespace Go.AE
open Go Go.RowKit

variable {P : Program} {cf : CallF} {s : St} {ops : Array Oper} {f0 : FS}

/-! ### what each record tells -/
def tmpAt (f0 : FS) (rs : List Rec) (d : Nat) : Value := rs.foldl (fun x r => if r.o.dst = some d then r.v else x) (ρof f0.t (.tmp d))
def tmpS (f0 : FS) (rs : List Rec) (L : Nat → Bool) (d : Nat) : Value := rs.foldl (fun x r => if r.o.dst = some d ∧ L r.i = true then r.v else x) (ρof f0.t (.tmp d))

structure Good (P : Program) (cf : CallF) (s : St) (ops : Array Oper) (f0 : FS) (rs : List Rec) (f : FS) : Prop where
  rec' : ∀ (k : Nat) (r : Rec), rs[k]? = some r → ops[k]? = some r.o ∧ recOf P cf s ops (rs.take k) k r.o r.t = some r ∧ (∀ d, ρof r.t (.tmp d) = tmpAt f0 (rs.take k) d) ∧ ∀ d, r.o.dst = some d → d < f0.nt
  tmp : ∀ d, ρof f.t (.tmp d) = tmpAt f0 rs d
  nt : f.nt = f0.nt
  st : f.s = s

theorem recOf_o {rs : List Rec} {i : Nat} {o : Oper} {t : PT Value} {r : Rec} (h : recOf P cf s ops rs i o t = some r) : r.o = o ∧ r.i = i ∧ r.t = t ∧ r.j = nLoud rs ∧ r.w = Region.wanted o (yieldedE ops t) ∧ r.ld = isLoud P o.op ∧ r.rd = isReader P o.op := by
  unfold recOf at h
  simp only at h
  split at h
  · rename_i hw
    simp only [Option.some.injEq] at h; subst h
    exact ⟨rfl, rfl, rfl, rfl, hw.symm, rfl, rfl⟩
  · rename_i hw
    split at h
    · rename_i h1
      replace h := Option.bind_eq_some_iff.1 h; obtain ⟨p, hp, h⟩ := h
      replace h := Option.bind_eq_some_iff.1 h; obtain ⟨_, hc, h⟩ := h
      simp only [Option.some.injEq] at h; subst h
      exact ⟨rfl, rfl, rfl, rfl, hw.symm, h1.symm, rfl⟩
    · rename_i h1 h2
      replace h := Option.bind_eq_some_iff.1 h; obtain ⟨p, hp, h⟩ := h
      replace h := Option.bind_eq_some_iff.1 h; obtain ⟨_, hc, h⟩ := h
      simp only [Option.some.injEq] at h; subst h
      exact ⟨rfl, rfl, rfl, rfl, hw.symm, h1.symm, h2.symm⟩
    · rename_i h1 h2
      replace h := Option.bind_eq_some_iff.1 h; obtain ⟨p, hp, h⟩ := h
      replace h := Option.bind_eq_some_iff.1 h; obtain ⟨_, hc, h⟩ := h
      simp only [Option.some.injEq] at h; subst h
      exact ⟨rfl, rfl, rfl, rfl, hw.symm, h1.symm, h2.symm⟩

theorem ck3 {a b c : Nat} {sn : Nat} {u : Unit} (h : ck (Nat.beq a sn && Nat.ble b c && Nat.beq (Nat.mod (c - b) sn) 0) = some u) : a = sn ∧ ∃ q, c = b + sn * q := by
  have := ck_some h
  simp only [Bool.and_eq_true] at this
  obtain ⟨⟨h1, h2⟩, h3⟩ := this
  have h2 := Nat.le_of_ble_eq_true h2
  have h3 : (c - b) % sn = 0 := Nat.eq_of_beq_eq_true h3
  exact ⟨Nat.eq_of_beq_eq_true h1, (c - b) / sn, by have := Nat.div_add_mod (c - b) sn; omega⟩

theorem recOf_not {rs : List Rec} {i : Nat} {o : Oper} {t : PT Value} {r : Rec} (h : recOf P cf s ops rs i o t = some r) (hw : r.w = false) : r.v = undef ∧ r.b = none ∧ r.e = s.nx + s.st * i := by
  have h0 := recOf_o h
  rw [h0.2.2.2.2.1] at hw
  unfold recOf at h
  simp only [hw, Option.some.injEq] at h
  subst h
  exact ⟨rfl, rfl, rfl⟩

theorem recOf_loud {rs : List Rec} {i : Nat} {o : Oper} {t : PT Value} {r : Rec} (h : recOf P cf s ops rs i o t = some r) (hw : r.w = true) (hl : r.ld = true) :
    ∃ s', evalAny P cf t o { h := view s ops rs (anc ops i) (nLoud rs), hm := (heapAt s rs (nLoud rs)).2, nx := s.nx + s.st * i, st := s.st * (ops.size + 1) } = some (r.v, s') ∧ s'.st = s.st * (ops.size + 1) ∧ (∃ q, s'.nx = s.nx + s.st * i + s.st * (ops.size + 1) * q) ∧
      r.e = s'.nx ∧ r.h = s'.h ∧ r.hm = s'.hm ∧ r.b = none := by
  have h0 := recOf_o h
  rw [h0.2.2.2.2.1] at hw
  rw [h0.2.2.2.2.2.1] at hl
  unfold recOf at h
  simp only [hw, hl] at h
  replace h := Option.bind_eq_some_iff.1 h; obtain ⟨p, hp, h⟩ := h
  replace h := Option.bind_eq_some_iff.1 h; obtain ⟨_, hc, h⟩ := h
  simp only [Option.some.injEq] at h; subst h
  obtain ⟨k1, k2⟩ := ck3 hc
  exact ⟨p.2, hp, k1, k2, rfl, rfl, rfl, rfl⟩

theorem recOf_reader {rs : List Rec} {i : Nat} {o : Oper} {t : PT Value} {r : Rec} (h : recOf P cf s ops rs i o t = some r) (hw : r.w = true) (hl : r.ld = false) (hr : r.rd = true) :
    ∃ s', evalAny P cf t o { h := view s ops rs (anc ops i) (nLoud rs), hm := (heapAt s rs (nLoud rs)).2, nx := s.nx + s.st * i, st := s.st * (ops.size + 1) } = some (r.v, s') ∧ r.e = s.nx + s.st * i ∧ r.b = none := by
  have h0 := recOf_o h
  rw [h0.2.2.2.2.1] at hw
  rw [h0.2.2.2.2.2.1] at hl
  rw [h0.2.2.2.2.2.2] at hr
  unfold recOf at h
  simp only [hw, hl, hr] at h
  replace h := Option.bind_eq_some_iff.1 h; obtain ⟨p, hp, h⟩ := h
  replace h := Option.bind_eq_some_iff.1 h; obtain ⟨_, hc, h⟩ := h
  simp only [Option.some.injEq] at h; subst h
  exact ⟨p.2, hp, rfl, rfl⟩

theorem recOf_maker {rs : List Rec} {i : Nat} {o : Oper} {t : PT Value} {r : Rec} (h : recOf P cf s ops rs i o t = some r) (hw : r.w = true) (hl : r.ld = false) (hr : r.rd = false) :
    ∃ s', evalAny P cf t o { h := .leaf, hm := .leaf, nx := s.nx + s.st * i, st := s.st * (ops.size + 1) } = some (r.v, s') ∧ s'.st = s.st * (ops.size + 1) ∧ (∃ q, s'.nx = s.nx + s.st * i + s.st * (ops.size + 1) * q) ∧ r.e = s'.nx ∧ r.b = s'.h.get (2 * (s.nx + s.st * i)) := by
  have h0 := recOf_o h
  rw [h0.2.2.2.2.1] at hw
  rw [h0.2.2.2.2.2.1] at hl
  rw [h0.2.2.2.2.2.2] at hr
  unfold recOf at h
  simp only [hw, hl, hr] at h
  replace h := Option.bind_eq_some_iff.1 h; obtain ⟨p, hp, h⟩ := h
  replace h := Option.bind_eq_some_iff.1 h; obtain ⟨_, hc, h⟩ := h
  simp only [Option.some.injEq] at h; subst h
  obtain ⟨k1, k2⟩ := ck3 hc
  exact ⟨p.2, hp, k1, k2, rfl, rfl⟩

theorem recsOf_good : ∀ (l : List Oper) (rs rs' : List Rec) (f f' : FS), recsOf P cf s ops l rs f = some (rs', f') → l = ops.toList.drop rs.length → rs.length ≤ ops.size → Good P cf s ops f0 rs f → Good P cf s ops f0 rs' f' ∧ rs'.length = ops.size
  | [], rs, rs', f, f', h, hl, hle, hg => by
    simp only [recsOf, Option.some.injEq, Prod.mk.injEq] at h
    obtain ⟨rfl, rfl⟩ := h
    refine ⟨hg, ?_⟩
    have : (ops.toList.drop rs.length).length = 0 := by rw [← hl]; rfl
    simp at this
    omega
  | o :: l, rs, rs', f, f', h, hl, hle, hg => by
    simp only [recsOf] at h
    replace h := Option.bind_eq_some_iff.1 h; obtain ⟨r, hr, h⟩ := h
    replace h := Option.bind_eq_some_iff.1 h; obtain ⟨f1, hf1, h⟩ := h
    have hok : ops[rs.length]? = some o := by
      have : (ops.toList.drop rs.length)[0]? = some o := by rw [← hl]; rfl
      simpa using this
    have hlt : rs.length < ops.size := by
      rcases Nat.lt_or_ge rs.length ops.size with h' | h'
      · exact h'
      · rw [Array.getElem?_eq_none h'] at hok; cases hok
    have hl' : l = ops.toList.drop (rs ++ [r]).length := by
      have : (ops.toList.drop rs.length).tail = ops.toList.drop (rs.length + 1) := by simp
      rw [List.length_append, List.length_singleton, ← this, ← hl]; rfl
    obtain ⟨p1, p2, p3, p4⟩ := putT_some hf1
    have h0 := recOf_o hr
    refine recsOf_good l (rs ++ [r]) rs' f1 f' h hl' (by simp; omega) ⟨fun k r' hk => ?_, fun d => ?_, by rw [p2]; exact hg.nt, by rw [p1]; exact hg.st⟩
    · by_cases hlk : k < rs.length
      · rw [List.getElem?_append_left hlk] at hk
        rw [List.take_append_of_le_length (by omega)]
        exact hg.rec' k r' hk
      · have hke : k = rs.length := by
          have : k < (rs ++ [r]).length := by
            rcases Nat.lt_or_ge k (rs ++ [r]).length with h' | h'
            · exact h'
            · rw [List.getElem?_eq_none h'] at hk; cases hk
          simp at this; omega
        subst hke
        rw [List.getElem?_append_right (Nat.le_refl _)] at hk
        simp at hk; subst hk
        rw [List.take_append_of_le_length (Nat.le_refl _), List.take_length, h0.1, h0.2.2.1]
        exact ⟨hok, hr, fun d => hg.tmp d, fun d hd => by rw [← hg.nt]; exact p3 d hd⟩
    · rw [p4]
      unfold tmpAt
      rw [List.foldl_append]
      simp only [List.foldl_cons, List.foldl_nil, h0.1]
      split
      · rfl
      · exact hg.tmp d

/-! ### who writes what -/
theorem foldl_none {α : Type} (c : Rec → Prop) [DecidablePred c] (v : Rec → α) : ∀ (rs : List Rec) (x : α), (∀ r ∈ rs, ¬ c r) → rs.foldl (fun x r => if c r then v r else x) x = x
  | [], x, _ => rfl
  | r :: rs, x, h => by
    simp only [List.foldl_cons]
    rw [if_neg (h r (by simp))]
    exact foldl_none c v rs x fun q hq => h q (by simp [hq])
theorem foldl_one {α : Type} (c : Rec → Prop) [DecidablePred c] (v : Rec → α) : ∀ (rs : List Rec) (x : α) (r : Rec), r ∈ rs → c r → (∀ q ∈ rs, c q → q = r) → rs.foldl (fun x r => if c r then v r else x) x = v r
  | [], x, r, hr, _, _ => by cases hr
  | r0 :: rs, x, r, hr, hc, hu => by
    simp only [List.foldl_cons]
    by_cases hin : ∃ q ∈ rs, c q
    · obtain ⟨q, hq, hcq⟩ := hin
      have := hu q (by simp [hq]) hcq
      subst this
      exact foldl_one c v rs _ q hq hc fun q' hq' => hu q' (by simp [hq'])
    · rw [foldl_none c v rs _ fun q hq hcq => hin ⟨q, hq, hcq⟩]
      rcases List.mem_cons.1 hr with rfl | hr
      · rw [if_pos hc]
      · exact absurd ⟨r, hr, hc⟩ hin


theorem Good.idx {rs : List Rec} {f : FS} (hg : Good P cf s ops f0 rs f) (hlen : rs.length = ops.size) (hd : DOk P ops) {k : Nat} {r : Rec} (h : rs[k]? = some r) : r.i = k ∧ ops[k]? = some r.o ∧ r.j = nLoud (rs.take k) := by
  obtain ⟨h1, h2, _⟩ := hg.rec' k r h
  have := recOf_o h2
  exact ⟨this.2.1, h1, this.2.2.2.1⟩
theorem Good.mem {rs : List Rec} {f : FS} (hg : Good P cf s ops f0 rs f) (hlen : rs.length = ops.size) (hd : DOk P ops) {r : Rec} (h : r ∈ rs) : rs[r.i]? = some r := by
  obtain ⟨k, hk⟩ := List.mem_iff_getElem?.1 h
  rw [(hg.idx hlen hd hk).1]; exact hk
theorem Good.inj {rs : List Rec} {f : FS} (hg : Good P cf s ops f0 rs f) (hlen : rs.length = ops.size) (hd : DOk P ops) {r r' : Rec} (h : r ∈ rs) (h' : r' ∈ rs) (hi : r.i = r'.i) : r = r' := by
  have h1 := hg.mem hlen hd h
  rw [hi, hg.mem hlen hd h'] at h1
  cases h1; rfl
theorem Good.inj2 {rs : List Rec} {f : FS} (hg : Good P cf s ops f0 rs f) (hlen : rs.length = ops.size) (hd : DOk P ops) : ∀ p q : Nat, ∀ r r', rs[p]? = some r → rs[q]? = some r' → r.i = r'.i → p = q := fun p q r r' h1 h2 h3 => by
  rw [(hg.idx hlen hd h1).1, (hg.idx hlen hd h2).1] at h3; exact h3
theorem Good.writer {rs : List Rec} {f : FS} (hg : Good P cf s ops f0 rs f) (hlen : rs.length = ops.size) (hd : DOk P ops) {r r' : Rec} (h : r ∈ rs) (h' : r' ∈ rs) {d : Tmp} (e : r.o.dst = some d) (e' : r'.o.dst = some d) : r = r' :=
  hg.inj hlen hd h h' (hd.dst _ _ _ _ d (hg.idx hlen hd (hg.mem hlen hd h)).2.1 (hg.idx hlen hd (hg.mem hlen hd h')).2.1 e e')
theorem Good.get {rs : List Rec} {f : FS} (hg : Good P cf s ops f0 rs f) (hlen : rs.length = ops.size) (hd : DOk P ops) {i : Nat} {o : Oper} (h : ops[i]? = some o) : ∃ r, rs[i]? = some r ∧ r ∈ rs ∧ r.i = i ∧ r.o = o := by
  have hi : i < ops.size := by
    rcases Nat.lt_or_ge i ops.size with h' | h'
    · exact h'
    · rw [Array.getElem?_eq_none h'] at h; cases h
  have hr : rs[i]? = some rs[i] := List.getElem?_eq_getElem (by omega)
  obtain ⟨h1, h2, _⟩ := hg.idx hlen hd hr
  rw [h] at h2
  exact ⟨_, hr, List.getElem_mem _, h1, (Option.some.inj h2).symm⟩

theorem nLoud_take_succ {rs : List Rec} {f : FS} (hg : Good P cf s ops f0 rs f) (hlen : rs.length = ops.size) (hd : DOk P ops) {k : Nat} {r : Rec} (h : rs[k]? = some r) : nLoud (rs.take (k + 1)) = nLoud (rs.take k) + (if r.lw = true then 1 else 0) := by
  unfold nLoud
  rw [List.take_add_one, h]
  simp only [Option.toList_some, List.filter_append, List.length_append]
  by_cases hl : r.lw = true
  · simp [hl]
  · simp [hl]
theorem nLoud_mono {rs : List Rec} {f : FS} (hg : Good P cf s ops f0 rs f) (hlen : rs.length = ops.size) (hd : DOk P ops) {k k' : Nat} (h : k ≤ k') : nLoud (rs.take k) ≤ nLoud (rs.take k') := by
  unfold nLoud
  obtain ⟨q, rfl⟩ : ∃ q, k' = k + q := ⟨k' - k, by omega⟩
  rw [List.take_add, List.filter_append, List.length_append]
  omega
theorem Good.j_lt {rs : List Rec} {f : FS} (hg : Good P cf s ops f0 rs f) (hlen : rs.length = ops.size) (hd : DOk P ops) {r r' : Rec} (h : r ∈ rs) (h' : r' ∈ rs) (hl : r.lw = true) (hi : r.i < r'.i) : r.j < r'.j := by
  have h1 := hg.mem hlen hd h
  have h2 := hg.mem hlen hd h'
  rw [(hg.idx hlen hd h1).2.2, (hg.idx hlen hd h2).2.2]
  have := nLoud_take_succ hg hlen hd h1
  rw [if_pos hl] at this
  have := nLoud_mono hg hlen hd (show r.i + 1 ≤ r'.i from hi)
  omega
theorem Good.j_le {rs : List Rec} {f : FS} (hg : Good P cf s ops f0 rs f) (hlen : rs.length = ops.size) (hd : DOk P ops) {r r' : Rec} (h : r ∈ rs) (h' : r' ∈ rs) (hi : r.i ≤ r'.i) : r.j ≤ r'.j := by
  rw [(hg.idx hlen hd (hg.mem hlen hd h)).2.2, (hg.idx hlen hd (hg.mem hlen hd h')).2.2]
  exact nLoud_mono hg hlen hd hi
theorem Good.j_bound {rs : List Rec} {f : FS} (hg : Good P cf s ops f0 rs f) (hlen : rs.length = ops.size) (hd : DOk P ops) {r : Rec} (h : r ∈ rs) (hl : r.lw = true) : r.j < nLoud rs := by
  have h1 := hg.mem hlen hd h
  rw [(hg.idx hlen hd h1).2.2]
  have := nLoud_take_succ hg hlen hd h1
  rw [if_pos hl] at this
  have h2 := nLoud_mono hg hlen hd (rs := rs) (k := r.i + 1) (k' := rs.length) (by
    rcases Nat.lt_or_ge r.i rs.length with h' | h'
    · exact h'
    · rw [List.getElem?_eq_none h'] at h1; cases h1)
  rw [List.take_length] at h2
  omega
theorem Good.j_ex {rs : List Rec} {f : FS} (hg : Good P cf s ops f0 rs f) (hlen : rs.length = ops.size) (hd : DOk P ops) : ∀ (k J : Nat), k ≤ rs.length → J < nLoud (rs.take k) → ∃ r ∈ rs, r.i < k ∧ r.lw = true ∧ r.j = J
  | 0, J, _, h => by simp [nLoud] at h
  | k + 1, J, hk, h => by
    have hr : rs[k]? = some rs[k] := List.getElem?_eq_getElem (by omega)
    rw [nLoud_take_succ hg hlen hd hr] at h
    by_cases hj : J < nLoud (rs.take k)
    · obtain ⟨r, h1, h2, h3⟩ := Good.j_ex hg hlen hd k J (by omega) hj
      exact ⟨r, h1, by omega, h3⟩
    · by_cases hl : rs[k].lw = true
      · rw [if_pos hl] at h
        obtain ⟨a1, _, a3⟩ := hg.idx hlen hd hr
        exact ⟨rs[k], List.getElem_mem _, by omega, hl, by rw [a3]; omega⟩
      · rw [if_neg hl] at h; omega

theorem heapAt_lw {rs : List Rec} {f : FS} (hg : Good P cf s ops f0 rs f) (hlen : rs.length = ops.size) (hd : DOk P ops) {r : Rec} (h : r ∈ rs) (hl : r.lw = true) : heapAt s rs (r.j + 1) = (r.h, r.hm) := by
  have key : ∀ (l : List Rec), (∀ q ∈ l, q ∈ rs) → r ∈ l → heapAt s l (r.j + 1) = (r.h, r.hm) := by
    intro l
    induction l with
    | nil => intro _ hr; cases hr
    | cons q l ih =>
      intro hsub hr
      simp only [heapAt]
      cases hc : (q.lw && Nat.beq (q.j + 1) (r.j + 1)) with
      | true =>
        simp only [Bool.and_eq_true] at hc
        have hj : q.j = r.j := by have := Nat.eq_of_beq_eq_true hc.2; omega
        have hqr : q = r := by
          have hq := hsub q (by simp)
          rcases Nat.lt_trichotomy q.i r.i with h' | h' | h'
          · have := hg.j_lt hlen hd hq h hc.1 h'; omega
          · exact hg.inj hlen hd hq h h'
          · have := hg.j_lt hlen hd h hq hl h'; omega
        rw [cond_true, hqr]
      | false =>
        rw [cond_false]
        rcases List.mem_cons.1 hr with rfl | hr
        · rw [hl] at hc
          simp at hc
        · exact ih (fun q hq => hsub q (by simp [hq])) hr
  exact key rs (fun _ h => h) h

theorem view_take {rs : List Rec} {f : FS} (hg : Good P cf s ops f0 rs f) (hlen : rs.length = ops.size) (hd : DOk P ops) {r : Rec} (h : r ∈ rs) : view s ops (rs.take r.i) (anc ops r.i) (nLoud (rs.take r.i)) = view s ops rs (anc ops r.i) r.j ∧ heapAt s (rs.take r.i) (nLoud (rs.take r.i)) = heapAt s rs r.j := by
  have h1 := hg.mem hlen hd h
  obtain ⟨_, ho, hj⟩ := hg.idx hlen hd h1
  have hc : ∀ q ∈ rs.drop r.i, q ∈ rs ∧ r.i ≤ q.i := fun q hq => by
    obtain ⟨k, hk⟩ := List.mem_iff_getElem?.1 hq
    rw [List.getElem?_drop] at hk
    have := hg.idx hlen hd hk
    exact ⟨List.mem_of_getElem? hk, by omega⟩
  have hv := view_append (ops := ops) s (rs.take r.i) (rs.drop r.i) (anc ops r.i) r.j (fun q hq _ => hg.j_le hlen hd h (hc q hq).1 (hc q hq).2) (fun q hq => by
    rw [Bool.eq_false_iff]; intro ha
    have := hd.anc_lt _ _ _ ho ha
    have := (hc q hq).2
    omega)
  have hh := heapAt_append s r.j (rs.take r.i) (rs.drop r.i) (fun q hq _ => hg.j_le hlen hd h (hc q hq).1 (hc q hq).2)
  rw [List.take_append_drop] at hv hh
  rw [← hj]
  exact ⟨hv.symm, hh.symm⟩
/-! ### a reader leaves all as it was -/
theorem reader_same {t : PT Value} {o : Oper} {s1 s2 : St} {v : Value} (hr : isReader P o.op = true) (hl : isLoud P o.op = false) (h : evalAny P cf t o s1 = some (v, s2)) : s2 = s1 := by
  replace h := Option.bind_eq_some_iff.1 h; obtain ⟨_, _, h⟩ := h
  have hpure : ∀ {v s2}, ePure P (ρof t) o s1 = some (v, s2) → s2 = s1 := fun {v s2} h => by
    replace h := Option.bind_eq_some_iff.1 h; obtain ⟨_, _, h⟩ := h
    replace h := Option.bind_eq_some_iff.1 h; obtain ⟨r, _, h⟩ := h
    split at h
    · replace h := Option.bind_eq_some_iff.1 h; obtain ⟨_, _, h⟩ := h
      simp only [Option.some.injEq, Prod.mk.injEq] at h; exact h.2.symm
    · cases h
  have hct : callTarget o.op = none := by
    unfold callTarget
    split
    · rename_i heq; rw [heq] at hl; cases hl
    · rfl
  rw [hct] at h
  simp only at h
  cases hop : o.op <;> rw [hop] at hr hl <;> simp [isReader] at hr
  case load ty x =>
    simp only [evalOp, hop, eLoad] at h
    replace h := Option.bind_eq_some_iff.1 h; obtain ⟨_, _, h⟩ := h
    replace h := Option.bind_eq_some_iff.1 h; obtain ⟨g, _, h⟩ := h
    cases g
    · replace h := Option.bind_eq_some_iff.1 h; obtain ⟨_, _, h⟩ := h
      simp only [Option.some.injEq, Prod.mk.injEq] at h; exact h.2.symm
    · replace h := Option.bind_eq_some_iff.1 h; obtain ⟨_, _, h⟩ := h
      replace h := Option.bind_eq_some_iff.1 h; obtain ⟨_, _, h⟩ := h
      simp only [Option.some.injEq, Prod.mk.injEq] at h; exact h.2.symm
  case lookup ty x ix ok =>
    simp only [evalOp, hop, eLookup] at h
    replace h := Option.bind_eq_some_iff.1 h; obtain ⟨_, _, h⟩ := h
    replace h := Option.bind_eq_some_iff.1 h; obtain ⟨_, _, h⟩ := h
    replace h := Option.bind_eq_some_iff.1 h; obtain ⟨_, _, h⟩ := h
    split at h
    · replace h := Option.bind_eq_some_iff.1 h; obtain ⟨_, _, h⟩ := h
      replace h := Option.bind_eq_some_iff.1 h; obtain ⟨_, _, h⟩ := h
      replace h := Option.bind_eq_some_iff.1 h; obtain ⟨_, _, h⟩ := h
      simp only [Option.some.injEq, Prod.mk.injEq] at h; exact h.2.symm
    · cases h
  case slice ty x lo hi mx =>
    simp only [evalOp, hop] at h
    split at h
    · unfold eSliceArr at h
      replace h := Option.bind_eq_some_iff.1 h; obtain ⟨_, _, h⟩ := h
      replace h := Option.bind_eq_some_iff.1 h; obtain ⟨_, _, h⟩ := h
      split at h
      · replace h := Option.bind_eq_some_iff.1 h; obtain ⟨_, _, h⟩ := h
        replace h := Option.bind_eq_some_iff.1 h; obtain ⟨_, _, h⟩ := h
        replace h := Option.bind_eq_some_iff.1 h; obtain ⟨_, _, h⟩ := h
        replace h := Option.bind_eq_some_iff.1 h; obtain ⟨_, _, h⟩ := h
        replace h := Option.bind_eq_some_iff.1 h; obtain ⟨_, _, h⟩ := h
        replace h := Option.bind_eq_some_iff.1 h; obtain ⟨_, _, h⟩ := h
        replace h := Option.bind_eq_some_iff.1 h; obtain ⟨_, _, h⟩ := h
        simp only [Option.some.injEq, Prod.mk.injEq] at h; exact h.2.symm
      · cases h
    · unfold eSlice at h
      split at h
      · replace h := Option.bind_eq_some_iff.1 h; obtain ⟨_, _, h⟩ := h
        replace h := Option.bind_eq_some_iff.1 h; obtain ⟨_, _, h⟩ := h
        replace h := Option.bind_eq_some_iff.1 h; obtain ⟨_, _, h⟩ := h
        replace h := Option.bind_eq_some_iff.1 h; obtain ⟨_, _, h⟩ := h
        replace h := Option.bind_eq_some_iff.1 h; obtain ⟨_, _, h⟩ := h
        replace h := Option.bind_eq_some_iff.1 h; obtain ⟨_, _, h⟩ := h
        replace h := Option.bind_eq_some_iff.1 h; obtain ⟨_, _, h⟩ := h
        replace h := Option.bind_eq_some_iff.1 h; obtain ⟨_, _, h⟩ := h
        split at h
        · simp only [Option.some.injEq, Prod.mk.injEq] at h; exact h.2.symm
        · replace h := Option.bind_eq_some_iff.1 h; obtain ⟨_, _, h⟩ := h
          split at h
          · simp only [Option.some.injEq, Prod.mk.injEq] at h; exact h.2.symm
          · replace h := Option.bind_eq_some_iff.1 h; obtain ⟨_, _, h⟩ := h
            simp only [Option.some.injEq, Prod.mk.injEq] at h; exact h.2.symm
      · replace h := Option.bind_eq_some_iff.1 h; obtain ⟨_, _, h⟩ := h
        split at h
        · replace h := Option.bind_eq_some_iff.1 h; obtain ⟨_, _, h⟩ := h
          replace h := Option.bind_eq_some_iff.1 h; obtain ⟨_, _, h⟩ := h
          replace h := Option.bind_eq_some_iff.1 h; obtain ⟨_, _, h⟩ := h
          simp only [Option.some.injEq, Prod.mk.injEq] at h; exact h.2.symm
        · cases h
      · cases h
  case convert src dst x =>
    have hstr : ∀ {v s2}, eToString P src dst (ρof t x) s1 = some (v, s2) → s2 = s1 := fun {v s2} h => by
      unfold eToString at h
      replace h := Option.bind_eq_some_iff.1 h; obtain ⟨ds, hds, h⟩ := h
      replace h := Option.bind_eq_some_iff.1 h; obtain ⟨dd, hdd, h⟩ := h
      split at h
      · replace h := Option.bind_eq_some_iff.1 h; obtain ⟨_, _, h⟩ := h
        split at h
        · replace h := Option.bind_eq_some_iff.1 h; obtain ⟨_, _, h⟩ := h
          replace h := Option.bind_eq_some_iff.1 h; obtain ⟨_, _, h⟩ := h
          simp only [Option.some.injEq, Prod.mk.injEq] at h; exact h.2.symm
        · cases h
      · replace h := Option.bind_eq_some_iff.1 h; obtain ⟨_, _, h⟩ := h
        split at h
        · simp only [Option.some.injEq, Prod.mk.injEq] at h; exact h.2.symm
        · cases h
      · rw [hds] at hr; simp at hr
      · simp [isLoud, hds, hdd] at hl
      · cases h
    simp only [evalOp, hop] at h
    split at h
    · exact hpure h
    · rcases orElse_some h with h | h
      · exact hstr h
      · exact hpure h
    · exact hstr h

/-! ### values that are told to be one -/
theorem veqL_spec {n : Nat} (ih : ∀ a b, veq n a b = true → a = b) : ∀ (l l' : List Value), veq.veqL n l l' = true → l = l'
  | [], [], _ => rfl
  | a :: l, b :: l', h => by
    simp only [veq.veqL, Bool.and_eq_true] at h
    rw [ih a b h.1, veqL_spec ih l l' h.2]
  | [], _ :: _, h => by simp [veq.veqL] at h
  | _ :: _, [], h => by simp [veq.veqL] at h
theorem veq_spec : ∀ (n : Nat) (a b : Value), veq n a b = true → a = b := by
  intro n
  induction n with
  | zero => intro a b h; simp [veq] at h
  | succ n ih =>
    intro a b h
    cases a <;> cases b <;> simp [veq] at h <;> try rfl
    · rw [h]
    · rw [h.1, h.2]
    · rename_i a b
      obtain ⟨⟨a⟩⟩ := a; obtain ⟨⟨b⟩⟩ := b
      simp at h; rw [h]
    · rw [h]
    · rw [h.1.1, h.1.2, h.2]
    · rw [h]
    · rename_i f a b g c d
      have h2 := veqL_spec ih _ _ h.1.2
      have h3 := veqL_spec ih _ _ h.2
      rw [h.1.1, Array.toList_inj.1 h2, Array.toList_inj.1 h3]
    · rw [h.1, ih _ _ h.2]
    · have := veqL_spec ih _ _ h
      rw [Array.toList_inj.1 this]
    · have := veqL_spec ih _ _ h
      rw [Array.toList_inj.1 this]

end Go.AE
